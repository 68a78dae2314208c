/- A stable sort of elements that may be alike: they are told apart by where they stood. -/
import Derived.Test.YtepchngnmfbffaaGreatEvMk
set_option linter.unusedSectionVars false
set_option linter.unusedVariables false
set_option linter.unusedSimpArgs false
namespace Go.Ev
open Go
section
variable {α β : Type} [Inhabited α] [Inhabited β]
def Step.mp {σ ρ σ' ρ' : Type} (F : σ → σ') (G : ρ → ρ') : Step σ ρ → Step σ' ρ'
  | .next s => .next (F s)
  | .stop s => .stop (F s)
  | .done r => .done (G r)
def Fin.mp {σ ρ σ' ρ' : Type} (F : σ → σ') (G : ρ → ρ') : Fin σ ρ → Fin σ' ρ'
  | .fin s => .fin (F s)
  | .done r => .done (G r)
theorem loopC_nat {σ ρ σ' ρ' : Type} {F : σ → σ'} {G : ρ → ρ'} {b : Nat → σ → Step σ ρ} {b' : Nat → σ' → Step σ' ρ'} (h : ∀ i s, b' i (F s) = (b i s).mp F G) : ∀ (n i : Nat) (s : σ), loopC b' i (F s) n = (loopC b i s n).mp F G
  | 0, i, s => rfl
  | n + 1, i, s => by
    unfold loopC
    rw [h]
    cases b i s with
    | next v => exact loopC_nat h n (i + 1) v
    | stop v => rfl
    | done r => rfl
theorem loopW_nat {σ ρ σ' ρ' : Type} {F : σ → σ'} {G : ρ → ρ'} {b : σ → Step σ ρ} {b' : σ' → Step σ' ρ'} (h : ∀ s, b' (F s) = (b s).mp F G) : ∀ (n : Nat) (s : σ), loopW b' n (F s) = (loopW b n s).mp F G
  | 0, s => by
    unfold loopW
    rw [h]
    cases b s <;> rfl
  | n + 1, s => by
    unfold loopW
    rw [h]
    cases b s with
    | next v => exact loopW_nat h n v
    | stop v => rfl
    | done r => rfl
theorem get_nat {σ ρ σ' ρ' : Type} {F : σ → σ'} {G : ρ → ρ'} {k : σ → ρ} {k' : σ' → ρ'} (h : ∀ s, k' (F s) = G (k s)) (l : Fin σ ρ) : Fin.get k' (l.mp F G) = G (Fin.get k l) := by
  cases l with
  | fin s => exact h s
  | done r => rfl
theorem sget_nat {σ ρ σ' ρ' : Type} {F : σ → σ'} {G : ρ → ρ'} {k : σ → ρ} {k' : σ' → ρ'} (h : ∀ s, k' (F s) = G (k s)) (l : Step σ ρ) : Step.get k' (l.mp F G) = G (Step.get k l) := by
  cases l with
  | next s => exact h s
  | stop s => exact h s
  | done r => rfl
variable {f : α → β} (hf : f default = default) {cmp : β → β → Int}
include hf
theorem getD_map (l : List α) (i : Nat) : (l.map f)[i]?.getD default = f (l[i]?.getD default) := by
  rw [List.getElem?_map]
  cases l[i]? with
  | none => exact hf.symm
  | some a => rfl
theorem ins_nat (l : List α) (a b : Int) : g_insertionSort (l.map f) a b cmp = (g_insertionSort l a b (fun x y => cmp (f x) (f y))).map f := by
  unfold g_insertionSort
  rw [loopC_nat (F := List.map f) (G := List.map f) (b := g_insertionSort_b1 a (fun x y => cmp (f x) (f y))) (fun i s => ?_)]
  · refine get_nat (fun s => ?_) _; rfl
  · unfold g_insertionSort_b1
    have h2 := loopW_nat (F := fun s : List α × Int => (s.1.map f, s.2)) (G := Step.mp (List.map f) (List.map f)) (b := g_insertionSort_b2 a (fun x y => cmp (f x) (f y))) (b' := g_insertionSort_b2 a cmp) (fun s => by
      unfold g_insertionSort_b2
      simp only [getD_map hf]
      cases decide (s.2 > a) <;> simp only [cond_true, cond_false]
      · rfl
      · cases decide (cmp (f (s.1[s.2.toNat]?.getD default)) (f (s.1[(IntKind.i64.wrap (s.2 - 1)).toNat]?.getD default)) < 0) <;> simp only [cond_true, cond_false]
        · rfl
        · simp [Step.mp, List.map_set])
    have h3 := h2 (((fun s : (List α) × Int => (s.2 - a).toNat) (s, ((IntKind.i64.wrap (a + 1)) + ((i : Nat) : Int))))) (s, ((IntKind.i64.wrap (a + 1)) + ((i : Nat) : Int)))
    simp only at h3 ⊢
    rw [h3]
    refine get_nat (fun s => ?_) _; rfl
theorem swap_nat (l : List α) (a b n : Int) (cmp' : α → α → Int) : g_swapRange (l.map f) a b n cmp = (g_swapRange l a b n cmp').map f := by
  unfold g_swapRange
  rw [loopC_nat (F := List.map f) (G := List.map f) (b := g_swapRange_b1 a b) (fun i s => ?_)]
  · refine get_nat (fun s => ?_) _; rfl
  · unfold g_swapRange_b1
    simp only [getD_map hf]
    simp [Step.mp, List.map_set]
theorem rot_nat (l : List α) (a b n : Int) (cmp' : α → α → Int) : g_rotate (l.map f) a b n cmp = (g_rotate l a b n cmp').map f := by
  unfold g_rotate
  have h2 := loopW_nat (F := fun s : List α × Int × Int => (s.1.map f, s.2)) (G := List.map f) (b := g_rotate_b1 b cmp') (b' := g_rotate_b1 b cmp) (fun s => by
    unfold g_rotate_b1
    simp only [swap_nat hf (cmp := cmp) _ _ _ _ cmp']
    cases (s.2.1 != s.2.2) <;> simp only [cond_true, cond_false]
    · rfl
    · cases decide (s.2.1 > s.2.2) <;> rfl) (((fun s : (List α) × Int × Int => (s.2.1 + s.2.2).toNat) (l, (IntKind.i64.wrap (b - a)), (IntKind.i64.wrap (n - b))))) (l, (IntKind.i64.wrap (b - a)), (IntKind.i64.wrap (n - b)))
  simp only at h2 ⊢
  rw [h2]
  refine get_nat (fun s => ?_) _
  exact swap_nat hf _ _ _ _ cmp'
theorem symR_nat : ∀ (n : Nat) (l : List α) (a m b : Int), g_symMergeR n (l.map f) a m b cmp = (g_symMergeR n l a m b (fun x y => cmp (f x) (f y))).map f
  | 0, l, a, m, b => rfl
  | n + 1, l, a, m, b => by
    have ih := symR_nat n
    unfold g_symMergeR
    cases (IntKind.i64.wrap (m - a) == 1) with
    | true =>
      simp only [cond_true]
      have h1 := loopW_nat (F := id) (G := List.map f) (b := g_symMerge_b1 l a (fun x y => cmp (f x) (f y))) (b' := g_symMerge_b1 (l.map f) a cmp) (fun s => by
        unfold g_symMerge_b1
        simp only [getD_map hf, id]
        cases decide (s.1 < s.2) <;> simp only [cond_true, cond_false]
        · rfl
        · cases decide (cmp (f (l[(IntKind.i64.wrap (iShr IntKind.u64 (IntKind.u64.wrap (IntKind.i64.wrap (s.1 + s.2))) 1)).toNat]?.getD default)) (f (l[a.toNat]?.getD default)) < 0) <;> rfl) ((b - m).toNat) (m, b)
      simp only [id] at h1 ⊢
      rw [h1]
      refine get_nat (fun s1 => ?_) _
      simp only [id]
      have h2 := loopC_nat (F := List.map f) (G := List.map f) (b := g_symMerge_b2 a) (b' := g_symMerge_b2 a) (fun i s => by unfold g_symMerge_b2; simp only [getD_map hf]; simp [Step.mp, List.map_set]) ((((IntKind.i64.wrap (s1.1 - 1)) - a)).toNat) 0 l
      rw [h2]
      refine get_nat (fun s => ?_) _; rfl
    | false =>
      simp only [cond_false]
      cases (IntKind.i64.wrap (b - m) == 1) with
      | true =>
        simp only [cond_true]
        have h1 := loopW_nat (F := id) (G := List.map f) (b := g_symMerge_b3 l m (fun x y => cmp (f x) (f y))) (b' := g_symMerge_b3 (l.map f) m cmp) (fun s => by
          unfold g_symMerge_b3
          simp only [getD_map hf, id]
          cases decide (s.1 < s.2) <;> simp only [cond_true, cond_false]
          · rfl
          · cases (!decide (cmp (f (l[m.toNat]?.getD default)) (f (l[(IntKind.i64.wrap (iShr IntKind.u64 (IntKind.u64.wrap (IntKind.i64.wrap (s.1 + s.2))) 1)).toNat]?.getD default)) < 0)) <;> rfl) ((m - a).toNat) (a, m)
        simp only [id] at h1 ⊢
        rw [h1]
        refine get_nat (fun s3 => ?_) _
        simp only [id]
        have h2 := loopW_nat (F := fun s : List α × Int => (s.1.map f, s.2)) (G := List.map f) (b := g_symMerge_b4 s3) (b' := g_symMerge_b4 s3) (fun s => by
          unfold g_symMerge_b4
          simp only [getD_map hf]
          cases decide (s.2 > s3.1) <;> simp only [cond_true, cond_false]
          · rfl
          · simp [Step.mp, List.map_set]) ((m - s3.1).toNat) (l, m)
        simp only at h2 ⊢
        rw [h2]
        refine get_nat (fun s => ?_) _; rfl
      | false =>
        simp only [cond_false]
        have h5 : (g_symMerge_j5 m a b : Step (Int × Int) (List β)) = ((g_symMerge_j5 m a b : Step (Int × Int) (List α))).mp id (List.map f) := by
          unfold g_symMerge_j5
          cases decide (m > IntKind.i64.wrap (iShr IntKind.u64 (IntKind.u64.wrap (IntKind.i64.wrap (a + b))) 1)) <;> rfl
        rw [h5]
        refine sget_nat (fun s5 => ?_) _
        simp only [id]
        have h6 := loopW_nat (F := id) (G := List.map f) (b := g_symMerge_b6 l a b m (fun x y => cmp (f x) (f y))) (b' := g_symMerge_b6 (l.map f) a b m cmp) (fun s => by
          unfold g_symMerge_b6
          simp only [getD_map hf, id]
          cases decide (s.1 < s.2) <;> simp only [cond_true, cond_false]
          · rfl
          · generalize (!decide (cmp _ _ < 0)) = q
            cases q <;> rfl) ((s5.2 - s5.1).toNat) (s5.1, s5.2)
        simp only [id] at h6 ⊢
        rw [h6]
        refine get_nat (fun s6 => ?_) _
        simp only [id]
        have h7 : g_symMerge_j7 s6 m a b (l.map f) cmp = (g_symMerge_j7 s6 m a b l (fun x y => cmp (f x) (f y))).mp (List.map f) (List.map f) := by
          unfold g_symMerge_j7
          rw [rot_nat hf (cmp := cmp) _ _ _ _ (fun x y => cmp (f x) (f y))]
          generalize decide (s6.1 < m) = q1
          generalize decide (m < _) = q2
          cases q1 <;> cases q2 <;> rfl
        rw [h7]
        refine sget_nat (fun s7 => ?_) _
        have h8 : g_symMerge_j8 (g_symMergeR n) a s6 b (s7.map f) cmp = (g_symMerge_j8 (g_symMergeR n) a s6 b s7 (fun x y => cmp (f x) (f y))).mp (List.map f) (List.map f) := by
          unfold g_symMerge_j8
          rw [ih]
          generalize decide (a < s6.1) = q1
          generalize decide (s6.1 < _) = q2
          cases q1 <;> cases q2 <;> rfl
        rw [h8]
        refine sget_nat (fun s8 => ?_) _
        rw [ih]
        generalize decide (_ < IntKind.i64.wrap (_ - s6.1)) = q1
        generalize decide (IntKind.i64.wrap (_ - s6.1) < b) = q2
        cases q1 <;> cases q2 <;> rfl
theorem sym_nat (l : List α) (a m b : Int) : g_symMerge (l.map f) a m b cmp = (g_symMerge l a m b (fun x y => cmp (f x) (f y))).map f := symR_nat hf _ _ _ _ _
theorem stable_nat (l : List α) (n : Int) : g_stable (l.map f) n cmp = (g_stable l n (fun x y => cmp (f x) (f y))).map f := by
  unfold g_stable
  have h1 := loopW_nat (F := fun s : List α × Int × Int => (s.1.map f, s.2)) (G := List.map f) (b := g_stable_b1 n (fun x y => cmp (f x) (f y))) (b' := g_stable_b1 n cmp) (fun s => by
    unfold g_stable_b1
    simp only [ins_nat hf]
    cases decide (s.2.2 ≤ n) <;> rfl) ((n + 1 - 20).toNat) (l, 0, 20)
  simp only at h1 ⊢
  rw [h1]
  refine get_nat (fun s1 => ?_) _
  simp only [ins_nat hf]
  have h2 := loopW_nat (F := fun s : List α × Int => (s.1.map f, s.2)) (G := List.map f) (b := g_stable_b2 n (fun x y => cmp (f x) (f y))) (b' := g_stable_b2 n cmp) (fun s2 => by
    unfold g_stable_b2
    simp only
    cases decide (s2.2 < n) <;> simp only [cond_true, cond_false]
    · rfl
    · have h3 := loopW_nat (F := fun s : List α × Int × Int => (s.1.map f, s.2)) (G := Step.mp (fun s : List α × Int => (s.1.map f, s.2)) (List.map f)) (b := g_stable_b3 n s2 (fun x y => cmp (f x) (f y))) (b' := g_stable_b3 n (s2.1.map f, s2.2) cmp) (fun s3 => by
        unfold g_stable_b3
        simp only [sym_nat hf]
        cases decide (s3.2.2 ≤ n) <;> rfl) ((n + 1 - IntKind.i64.wrap (2 * s2.2)).toNat) (s2.1, 0, IntKind.i64.wrap (2 * s2.2))
      simp only at h3 ⊢
      rw [h3]
      refine get_nat (fun s3 => ?_) _
      simp only [sym_nat hf]
      generalize decide (_ < n) = q
      cases q <;> rfl) ((n - 20).toNat) (g_insertionSort s1.1 s1.2.1 n (fun x y => cmp (f x) (f y)), 20)
  simp only at h2 ⊢
  rw [h2]
  refine get_nat (fun s => ?_) _; rfl
end
section
variable {α : Type} [Inhabited α] (key : α → Int)
/-- Where an element goes in: behind all that are not greater, from the right. -/
def insN (s : List α) (x : Int) : Nat → Nat
  | 0 => 0
  | k + 1 => if key (s[k]?.getD default) > x then insN s x k else k + 1
def ins (s : List α) (a : α) : List α := s.take (insN key s (key a) s.length) ++ a :: s.drop (insN key s (key a) s.length)
def insAll : List α → List α → List α
  | s, [] => s
  | s, a :: l => insAll (ins key s a) l
theorem insN_le (s : List α) (x : Int) : ∀ k, insN key s x k ≤ k
  | 0 => Nat.le_refl _
  | k + 1 => by
    have := insN_le s x k
    unfold insN; split <;> omega
theorem insN_gt (s : List α) (x : Int) : ∀ k j, insN key s x k ≤ j → j < k → key (s[j]?.getD default) > x
  | 0, j, _, h => absurd h (Nat.not_lt_zero _)
  | k + 1, j, h1, h2 => by
    unfold insN at h1
    split at h1
    · rename_i hk
      rcases Nat.lt_or_ge j k with h | h
      · exact insN_gt s x k j h1 h
      · have : j = k := by omega
        subst this; exact hk
    · omega
theorem insN_stop (s : List α) (x : Int) : ∀ k, insN key s x k = 0 ∨ ¬ key (s[insN key s x k - 1]?.getD default) > x
  | 0 => .inl rfl
  | k + 1 => by
    unfold insN
    split
    · exact insN_stop s x k
    · exact .inr (by assumption)
theorem insAll_append (l m : List α) : ∀ s : List α, insAll key s (l ++ m) = insAll key (insAll key s l) m := by
  induction l with
  | nil => intro s; rfl
  | cons a l ih => intro s; exact ih _
theorem ins_len (s : List α) (a : α) : (ins key s a).length = s.length + 1 := by
  have := insN_le key s (key a) s.length
  unfold ins
  simp only [List.length_append, List.length_take, List.length_cons, List.length_drop]; omega
theorem ins_perm (s : List α) (a : α) : (ins key s a).Perm (a :: s) := by
  have := List.perm_middle (a := a) (l₁ := s.take (insN key s (key a) s.length)) (l₂ := s.drop (insN key s (key a) s.length))
  rw [List.take_append_drop] at this
  exact this
end
section
variable {α β : Type} [Inhabited α] [Inhabited β] {f : α → β} (hf : f default = default) {key : β → Int}
include hf
theorem insN_nat (s : List α) (x : Int) : ∀ k, insN key (s.map f) x k = insN (fun a => key (f a)) s x k
  | 0 => rfl
  | k + 1 => by
    unfold insN
    rw [getD_map hf, insN_nat s x k]
theorem ins_natM (s : List α) (a : α) : ins key (s.map f) (f a) = (ins (fun a => key (f a)) s a).map f := by
  unfold ins
  rw [List.length_map, insN_nat hf]
  simp
theorem insAll_nat : ∀ (l s : List α), insAll key (s.map f) (l.map f) = (insAll (fun a => key (f a)) s l).map f
  | [], s => rfl
  | a :: l, s => by
    show insAll key (ins key (s.map f) (f a)) (l.map f) = _
    rw [ins_natM hf]
    exact insAll_nat l _
end
section
variable {α : Type} [Inhabited α] (key : α → Int)
/-- The order of what stood where. -/
def RT (x y : α × Nat) : Prop := key x.1 < key y.1 ∨ (key x.1 = key y.1 ∧ x.2 < y.2)
theorem RT_tr : ∀ x y z : α × Nat, RT key x y → RT key y z → RT key x z := by
  intro x y z h1 h2; unfold RT at *; omega
theorem RT_as : ∀ x y : α × Nat, RT key x y → ¬ RT key y x := by
  intro x y h1 h2; unfold RT at *; omega
theorem insAll_ok : ∀ (l s : List (α × Nat)), Run (RT key) s → (∀ x ∈ s, ∀ y ∈ l, x.2 < y.2) → l.Pairwise (fun x y => x.2 < y.2) → (insAll (fun x => key x.1) s l).Perm (s ++ l) ∧ Run (RT key) (insAll (fun x => key x.1) s l)
  | [], s, h1, h2, h3 => ⟨by simp [insAll], h1⟩
  | a :: l, s, h1, h2, h3 => by
    have h3' := List.pairwise_cons.1 h3
    have hp := ins_perm (fun x : α × Nat => key x.1) s a
    have hle := insN_le (fun x : α × Nat => key x.1) s (key a.1) s.length
    have hgt := insN_gt (fun x : α × Nat => key x.1) s (key a.1) s.length
    have hst := insN_stop (fun x : α × Nat => key x.1) s (key a.1) s.length
    have hr : Run (RT key) (ins (fun x => key x.1) s a) := by
      unfold ins
      simp only
      generalize insN (fun x : α × Nat => key x.1) s (key a.1) s.length = k at hle hgt hst
      refine run_mid (RT_tr key) (by simpa using h1) (fun x hx => ?_) (fun y hy => ?_)
      · have hxs := h2 x (List.mem_of_mem_take hx) a (by simp)
        have hxa : key x.1 ≤ key a.1 := by
          rcases hst with h0 | h0
          · subst h0; simp at hx
          · obtain ⟨j, hjl, hjk, e⟩ := mem_take' hx
            have hk1 : k - 1 < s.length := by omega
            rw [List.getElem?_eq_getElem hk1, Option.getD_some] at h0
            rcases Nat.lt_or_ge j (k - 1) with h | h
            · have := run_get h1 hjl hk1 h
              rw [e] at this
              unfold RT at this
              omega
            · have : j = k - 1 := by omega
              subst this
              rw [e] at h0
              omega
        unfold RT; omega
      · obtain ⟨j, hjl, hjk, e⟩ := mem_drop' hy
        have := hgt j hjk hjl
        rw [List.getElem?_eq_getElem hjl, Option.getD_some, e] at this
        unfold RT; omega
    obtain ⟨q1, q2⟩ := insAll_ok l (ins (fun x => key x.1) s a) hr (fun x hx y hy => by
      rcases List.mem_cons.1 (hp.mem_iff.1 hx) with e | hx
      · rw [e]; exact h3'.1 y hy
      · exact h2 x hx y (by simp [hy])) h3'.2
    refine ⟨q1.trans ?_, q2⟩
    refine (hp.append_right l).trans ?_
    simp only [List.cons_append]
    exact List.perm_middle.symm
/-- The library's stable sort by a key is insertion by that key. -/
theorem stable_ins {cmp : α → α → Int} (hc : ∀ x y, cmp x y = cmL (key x) (key y)) (l : List α) (hl : l.length ≤ 288230376151711744) : g_stable l ((l.length : Nat) : Int) cmp = insAll key [] l := by
  have hz : l.zipIdx.map Prod.fst = l := by simp
  have hlt : l.zipIdx.Pairwise (fun x y => x.2 < y.2) := by
    rw [List.pairwise_iff_getElem]
    intro i j hi hj hij
    simpa using hij
  have hzl : l.zipIdx.length = l.length := by simp
  have hs := g_stable_ok (R := RT key) (cmp := fun x y : α × Nat => cmp x.1 y.1) (RT_tr key) (RT_as key) l.zipIdx (by rw [hzl]; exact hl) (hlt.imp fun {x y} hxy => by
    unfold Cm
    simp only [hc]
    unfold cmL RT
    constructor
    · constructor
      · intro h
        by_cases h1 : key y.1 < key x.1
        · exact .inl h1
        · rw [if_neg h1] at h
          split at h <;> omega
      · rintro (h | ⟨_, h⟩)
        · rw [if_pos h]; omega
        · omega
    · omega)
  have hi := insAll_ok key l.zipIdx [] List.Pairwise.nil (fun x hx => by cases hx) hlt
  have e : g_stable l.zipIdx ((l.zipIdx.length : Nat) : Int) (fun x y : α × Nat => cmp x.1 y.1) = insAll (fun x => key x.1) [] l.zipIdx :=
    List.Perm.eq_of_pairwise (fun a b _ _ h1 h2 => absurd h2 (RT_as key _ _ h1)) hs.2 hi.2 (hs.1.trans (by simpa using hi.1.symm))
  have n1 := stable_nat (f := (Prod.fst : α × Nat → α)) rfl (cmp := cmp) l.zipIdx ((l.zipIdx.length : Nat) : Int)
  have n2 := insAll_nat (f := (Prod.fst : α × Nat → α)) rfl (key := key) l.zipIdx []
  rw [hz, hzl] at n1
  rw [hz] at n2
  rw [hzl] at e
  rw [n1, e]
  exact n2.symm
end
end Go.Ev
