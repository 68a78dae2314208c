/- The library's stable sort, as it is printed, of whatever elements; it is a stable sort. -/
import Derived.Test.YtepchngnmfbffaaGreatEvS
import Derived.Test.YtepchngnmfbffaaGreatEvSym
set_option linter.unusedSectionVars false
set_option linter.unusedVariables false
set_option linter.unusedSimpArgs false
namespace Go.Ev
open Go
variable {α : Type} [Inhabited α]
def g_insertionSort_b2 (p1 : Int) (cmp : α → α → Int) (s2 : (List α) × Int) : Step ((List α) × Int) (Step ((List α)) (List α)) :=
  (bif (decide (s2.2 > p1)) then (bif (decide ((cmp (s2.1[(s2.2).toNat]?.getD default) (s2.1[((IntKind.i64.wrap (s2.2 - 1))).toNat]?.getD default)) < 0)) then (.next ((List.set (List.set s2.1 (s2.2).toNat (s2.1[((IntKind.i64.wrap (s2.2 - 1))).toNat]?.getD default)) ((IntKind.i64.wrap (s2.2 - 1))).toNat (s2.1[(s2.2).toNat]?.getD default)), (IntKind.i64.wrap (s2.2 - 1)))) else (.stop (s2.1, s2.2))) else (.stop (s2.1, s2.2)))
def g_insertionSort_b1 (p1 : Int) (cmp : α → α → Int) (i1 : Nat) (s1 : (List α)) : Step ((List α)) (List α) :=
  (Fin.get (fun s2 => (.next s2.1)) (loopW (g_insertionSort_b2 p1 cmp) ((fun s : (List α) × Int => (s.2 - p1).toNat) (s1, ((IntKind.i64.wrap (p1 + 1)) + ((i1 : Nat) : Int)))) (s1, ((IntKind.i64.wrap (p1 + 1)) + ((i1 : Nat) : Int)))))
def g_insertionSort (p0 : (List α)) (p1 : Int) (p2 : Int) (cmp : α → α → Int) : (List α) :=
  (Fin.get (fun s1 => s1) (loopC (g_insertionSort_b1 p1 cmp) 0 p0 ((p2 - (IntKind.i64.wrap (p1 + 1)))).toNat))
def g_swapRange_b1 (p1 : Int) (p2 : Int) (i1 : Nat) (s1 : (List α)) : Step ((List α)) (List α) :=
  (.next (List.set (List.set s1 ((IntKind.i64.wrap (p1 + ((i1 : Nat) : Int)))).toNat (s1[((IntKind.i64.wrap (p2 + ((i1 : Nat) : Int)))).toNat]?.getD default)) ((IntKind.i64.wrap (p2 + ((i1 : Nat) : Int)))).toNat (s1[((IntKind.i64.wrap (p1 + ((i1 : Nat) : Int)))).toNat]?.getD default)))
def g_swapRange (p0 : (List α)) (p1 : Int) (p2 : Int) (p3 : Int) (cmp : α → α → Int) : (List α) :=
  (Fin.get (fun s1 => s1) (loopC (g_swapRange_b1 p1 p2) 0 p0 (p3).toNat))
def g_rotate_b1 (p2 : Int) (cmp : α → α → Int) (s1 : (List α) × Int × Int) : Step ((List α) × Int × Int) (List α) :=
  (bif (s1.2.1 != s1.2.2) then (bif (decide (s1.2.1 > s1.2.2)) then (.next ((g_swapRange s1.1 (IntKind.i64.wrap (p2 - s1.2.1)) p2 s1.2.2 cmp), (IntKind.i64.wrap (s1.2.1 - s1.2.2)), s1.2.2)) else (.next ((g_swapRange s1.1 (IntKind.i64.wrap (p2 - s1.2.1)) (IntKind.i64.wrap ((IntKind.i64.wrap (p2 + s1.2.2)) - s1.2.1)) s1.2.1 cmp), s1.2.1, (IntKind.i64.wrap (s1.2.2 - s1.2.1))))) else (.stop (s1.1, s1.2.1, s1.2.2)))
def g_rotate (p0 : (List α)) (p1 : Int) (p2 : Int) (p3 : Int) (cmp : α → α → Int) : (List α) :=
  (Fin.get (fun s1 => (g_swapRange s1.1 (IntKind.i64.wrap (p2 - s1.2.1)) p2 s1.2.1 cmp)) (loopW (g_rotate_b1 p2 cmp) ((fun s : (List α) × Int × Int => (s.2.1 + s.2.2).toNat) (p0, (IntKind.i64.wrap (p2 - p1)), (IntKind.i64.wrap (p3 - p2)))) (p0, (IntKind.i64.wrap (p2 - p1)), (IntKind.i64.wrap (p3 - p2)))))
def g_symMerge_b2 (p1 : Int) (i2 : Nat) (s2 : (List α)) : Step ((List α)) (List α) :=
  (.next (List.set (List.set s2 ((p1 + ((i2 : Nat) : Int))).toNat (s2[((IntKind.i64.wrap ((p1 + ((i2 : Nat) : Int)) + 1))).toNat]?.getD default)) ((IntKind.i64.wrap ((p1 + ((i2 : Nat) : Int)) + 1))).toNat (s2[((p1 + ((i2 : Nat) : Int))).toNat]?.getD default)))
def g_symMerge_b1 (p0 : (List α)) (p1 : Int) (cmp : α → α → Int) (s1 : Int × Int) : Step (Int × Int) (List α) :=
  (bif (decide (s1.1 < s1.2)) then (bif (decide ((cmp (p0[((IntKind.i64.wrap (iShr .u64 (IntKind.u64.wrap (IntKind.i64.wrap (s1.1 + s1.2))) 1))).toNat]?.getD default) (p0[(p1).toNat]?.getD default)) < 0)) then (.next ((IntKind.i64.wrap ((IntKind.i64.wrap (iShr .u64 (IntKind.u64.wrap (IntKind.i64.wrap (s1.1 + s1.2))) 1)) + 1)), s1.2)) else (.next (s1.1, (IntKind.i64.wrap (iShr .u64 (IntKind.u64.wrap (IntKind.i64.wrap (s1.1 + s1.2))) 1))))) else (.stop (s1.1, s1.2)))
def g_symMerge_b4 (s3 : Int × Int) (s4 : (List α) × Int) : Step ((List α) × Int) (List α) :=
  (bif (decide (s4.2 > s3.1)) then (.next ((List.set (List.set s4.1 (s4.2).toNat (s4.1[((IntKind.i64.wrap (s4.2 - 1))).toNat]?.getD default)) ((IntKind.i64.wrap (s4.2 - 1))).toNat (s4.1[(s4.2).toNat]?.getD default)), (IntKind.i64.wrap (s4.2 - 1)))) else (.stop (s4.1, s4.2)))
def g_symMerge_b3 (p0 : (List α)) (p2 : Int) (cmp : α → α → Int) (s3 : Int × Int) : Step (Int × Int) (List α) :=
  (bif (decide (s3.1 < s3.2)) then (bif (!(decide ((cmp (p0[(p2).toNat]?.getD default) (p0[((IntKind.i64.wrap (iShr .u64 (IntKind.u64.wrap (IntKind.i64.wrap (s3.1 + s3.2))) 1))).toNat]?.getD default)) < 0))) then (.next ((IntKind.i64.wrap ((IntKind.i64.wrap (iShr .u64 (IntKind.u64.wrap (IntKind.i64.wrap (s3.1 + s3.2))) 1)) + 1)), s3.2)) else (.next (s3.1, (IntKind.i64.wrap (iShr .u64 (IntKind.u64.wrap (IntKind.i64.wrap (s3.1 + s3.2))) 1))))) else (.stop (s3.1, s3.2)))
def g_symMerge_j5 (p2 : Int) (p1 : Int) (p3 : Int) : Step (Int × Int) (List α) :=
  (bif (decide (p2 > (IntKind.i64.wrap (iShr .u64 (IntKind.u64.wrap (IntKind.i64.wrap (p1 + p3))) 1)))) then (.next ((IntKind.i64.wrap ((IntKind.i64.wrap ((IntKind.i64.wrap (iShr .u64 (IntKind.u64.wrap (IntKind.i64.wrap (p1 + p3))) 1)) + p2)) - p3)), (IntKind.i64.wrap (iShr .u64 (IntKind.u64.wrap (IntKind.i64.wrap (p1 + p3))) 1)))) else (.next (p1, p2)))
def g_symMerge_j7 (s6 : Int × Int) (p2 : Int) (p1 : Int) (p3 : Int) (p0 : (List α)) (cmp : α → α → Int) : Step ((List α)) (List α) :=
  (bif (decide (s6.1 < p2)) then (bif (decide (p2 < (IntKind.i64.wrap ((IntKind.i64.wrap ((IntKind.i64.wrap (iShr .u64 (IntKind.u64.wrap (IntKind.i64.wrap (p1 + p3))) 1)) + p2)) - s6.1)))) then (.next (g_rotate p0 s6.1 p2 (IntKind.i64.wrap ((IntKind.i64.wrap ((IntKind.i64.wrap (iShr .u64 (IntKind.u64.wrap (IntKind.i64.wrap (p1 + p3))) 1)) + p2)) - s6.1)) cmp)) else (.next p0)) else (.next p0))
def g_symMerge_j8 (r0 : (((List α)) → (Int) → (Int) → (Int) → (α → α → Int) → ((List α)))) (p1 : Int) (s6 : Int × Int) (p3 : Int) (s7 : (List α)) (cmp : α → α → Int) : Step ((List α)) (List α) :=
  (bif (decide (p1 < s6.1)) then (bif (decide (s6.1 < (IntKind.i64.wrap (iShr .u64 (IntKind.u64.wrap (IntKind.i64.wrap (p1 + p3))) 1)))) then (.next (r0 s7 p1 s6.1 (IntKind.i64.wrap (iShr .u64 (IntKind.u64.wrap (IntKind.i64.wrap (p1 + p3))) 1)) cmp)) else (.next s7)) else (.next s7))
def g_symMerge_b6 (p0 : (List α)) (p1 : Int) (p3 : Int) (p2 : Int) (cmp : α → α → Int) (s6 : Int × Int) : Step (Int × Int) (List α) :=
  (bif (decide (s6.1 < s6.2)) then (bif (!(decide ((cmp (p0[((IntKind.i64.wrap ((IntKind.i64.wrap ((IntKind.i64.wrap ((IntKind.i64.wrap (iShr .u64 (IntKind.u64.wrap (IntKind.i64.wrap (p1 + p3))) 1)) + p2)) - 1)) - (IntKind.i64.wrap (iShr .u64 (IntKind.u64.wrap (IntKind.i64.wrap (s6.1 + s6.2))) 1))))).toNat]?.getD default) (p0[((IntKind.i64.wrap (iShr .u64 (IntKind.u64.wrap (IntKind.i64.wrap (s6.1 + s6.2))) 1))).toNat]?.getD default)) < 0))) then (.next ((IntKind.i64.wrap ((IntKind.i64.wrap (iShr .u64 (IntKind.u64.wrap (IntKind.i64.wrap (s6.1 + s6.2))) 1)) + 1)), s6.2)) else (.next (s6.1, (IntKind.i64.wrap (iShr .u64 (IntKind.u64.wrap (IntKind.i64.wrap (s6.1 + s6.2))) 1))))) else (.stop (s6.1, s6.2)))
def g_symMergeR : Nat → ((List α)) → (Int) → (Int) → (Int) → (α → α → Int) → ((List α))
  | 0, p0, _, _, _, _ => p0
  | n + 1, p0, p1, p2, p3, cmp => (bif ((IntKind.i64.wrap (p2 - p1)) == 1) then (Fin.get (fun s1 => (Fin.get (fun s2 => s2) (loopC (g_symMerge_b2 p1) 0 p0 (((IntKind.i64.wrap (s1.1 - 1)) - p1)).toNat))) (loopW (g_symMerge_b1 p0 p1 cmp) ((fun s : Int × Int => (s.2 - s.1).toNat) (p2, p3)) (p2, p3))) else (bif ((IntKind.i64.wrap (p3 - p2)) == 1) then (Fin.get (fun s3 => (Fin.get (fun s4 => s4.1) (loopW (g_symMerge_b4 s3) ((fun s : (List α) × Int => (s.2 - s3.1).toNat) (p0, p2)) (p0, p2)))) (loopW (g_symMerge_b3 p0 p2 cmp) ((fun s : Int × Int => (s.2 - s.1).toNat) (p1, p2)) (p1, p2))) else (Step.get (fun s5 => (Fin.get (fun s6 => (Step.get (fun s7 => (Step.get (fun s8 => (bif (decide ((IntKind.i64.wrap (iShr .u64 (IntKind.u64.wrap (IntKind.i64.wrap (p1 + p3))) 1)) < (IntKind.i64.wrap ((IntKind.i64.wrap ((IntKind.i64.wrap (iShr .u64 (IntKind.u64.wrap (IntKind.i64.wrap (p1 + p3))) 1)) + p2)) - s6.1)))) then (bif (decide ((IntKind.i64.wrap ((IntKind.i64.wrap ((IntKind.i64.wrap (iShr .u64 (IntKind.u64.wrap (IntKind.i64.wrap (p1 + p3))) 1)) + p2)) - s6.1)) < p3)) then ((g_symMergeR n) s8 (IntKind.i64.wrap (iShr .u64 (IntKind.u64.wrap (IntKind.i64.wrap (p1 + p3))) 1)) (IntKind.i64.wrap ((IntKind.i64.wrap ((IntKind.i64.wrap (iShr .u64 (IntKind.u64.wrap (IntKind.i64.wrap (p1 + p3))) 1)) + p2)) - s6.1)) p3 cmp) else s8) else s8)) (g_symMerge_j8 (g_symMergeR n) p1 s6 p3 s7 cmp))) (g_symMerge_j7 s6 p2 p1 p3 p0 cmp))) (loopW (g_symMerge_b6 p0 p1 p3 p2 cmp) ((fun s : Int × Int => (s.2 - s.1).toNat) (s5.1, s5.2)) (s5.1, s5.2)))) (g_symMerge_j5 p2 p1 p3))))
def g_symMerge (p0 : (List α)) (p1 : Int) (p2 : Int) (p3 : Int) (cmp : α → α → Int) : (List α) := g_symMergeR ((p3 - p1).toNat + 1) p0 p1 p2 p3 cmp
def g_stable_b3 (p1 : Int) (s2 : (List α) × Int) (cmp : α → α → Int) (s3 : (List α) × Int × Int) : Step ((List α) × Int × Int) (Step ((List α) × Int) (List α)) :=
  (bif (decide (s3.2.2 ≤ p1)) then (.next ((g_symMerge s3.1 s3.2.1 (IntKind.i64.wrap (s3.2.1 + s2.2)) s3.2.2 cmp), s3.2.2, (IntKind.i64.wrap (s3.2.2 + (IntKind.i64.wrap (2 * s2.2)))))) else (.stop (s3.1, s3.2.1, s3.2.2)))
def g_stable_b2 (p1 : Int) (cmp : α → α → Int) (s2 : (List α) × Int) : Step ((List α) × Int) (List α) :=
  (bif (decide (s2.2 < p1)) then (Fin.get (fun s3 => (bif (decide ((IntKind.i64.wrap (s3.2.1 + s2.2)) < p1)) then (.next ((g_symMerge s3.1 s3.2.1 (IntKind.i64.wrap (s3.2.1 + s2.2)) p1 cmp), (IntKind.i64.wrap (s2.2 * 2)))) else (.next (s3.1, (IntKind.i64.wrap (s2.2 * 2)))))) (loopW (g_stable_b3 p1 s2 cmp) ((fun s : (List α) × Int × Int => (p1 + 1 - s.2.2).toNat) (s2.1, 0, (IntKind.i64.wrap (2 * s2.2)))) (s2.1, 0, (IntKind.i64.wrap (2 * s2.2))))) else (.stop (s2.1, s2.2)))
def g_stable_b1 (p1 : Int) (cmp : α → α → Int) (s1 : (List α) × Int × Int) : Step ((List α) × Int × Int) (List α) :=
  (bif (decide (s1.2.2 ≤ p1)) then (.next ((g_insertionSort s1.1 s1.2.1 s1.2.2 cmp), s1.2.2, (IntKind.i64.wrap (s1.2.2 + 20)))) else (.stop (s1.1, s1.2.1, s1.2.2)))
def g_stable (p0 : (List α)) (p1 : Int) (cmp : α → α → Int) : (List α) :=
  (Fin.get (fun s1 => (Fin.get (fun s2 => s2.1) (loopW (g_stable_b2 p1 cmp) ((fun s : (List α) × Int => (p1 - s.2).toNat) ((g_insertionSort s1.1 s1.2.1 p1 cmp), 20)) ((g_insertionSort s1.1 s1.2.1 p1 cmp), 20)))) (loopW (g_stable_b1 p1 cmp) ((fun s : (List α) × Int × Int => (p1 + 1 - s.2.2).toNat) (p0, 0, 20)) (p0, 0, 20)))
theorem wrapN {a b : Nat} (h : a + b ≤ 4611686018427387904) : (IntKind.i64.wrap ((a : Int) + (b : Int))).toNat = a + b := by
  rw [wrap_small] <;> omega
theorem swapC (a b : Nat) : ∀ (k i : Nat) (s : List α), a + i + k ≤ 4611686018427387904 → b + i + k ≤ 4611686018427387904 → loopC (g_swapRange_b1 (a : Int) (b : Int)) i s k = .fin (swapR k s (a + i) (b + i))
  | 0, i, s, _, _ => rfl
  | k + 1, i, s, h1, h2 => by
    unfold loopC
    have e : g_swapRange_b1 (a : Int) (b : Int) i s = .next (swp s (a + i) (b + i)) := by
      unfold g_swapRange_b1 swp
      rw [wrapN (by omega), wrapN (by omega)]
    rw [e]
    simp only
    rw [swapC a b k (i + 1) _ (by omega) (by omega)]
    rfl
theorem g_swapRange_eq (l : List α) (a b n : Nat) (cmp : α → α → Int) (h1 : a + n ≤ 4611686018427387904) (h2 : b + n ≤ 4611686018427387904) : g_swapRange l a b n cmp = swapR n l a b := by
  unfold g_swapRange
  have := swapC a b n 0 l (by omega) (by omega)
  rw [show ((n : Nat) : Int).toNat = n from rfl, this]
  rfl
theorem rotW (m : Nat) (cmp : α → α → Int) : ∀ (n : Nat) (s : List α) (i j k : Nat), 0 < i → 0 < j → i ≤ m → m + j ≤ 2305843009213693952 → i + j ≤ n → i + j ≤ k →
    Fin.get (fun s1 => g_swapRange s1.1 (IntKind.i64.wrap ((m : Int) - s1.2.1)) m s1.2.1 cmp) (loopW (g_rotate_b1 (m : Int) cmp) n (s, (i : Int), (j : Int))) = rot k s m i j
  | 0, s, i, j, k, h1, h2, h3, h4, h5, h6 => by omega
  | n + 1, s, i, j, 0, h1, h2, h3, h4, h5, h6 => by omega
  | n + 1, s, i, j, k + 1, h1, h2, h3, h4, h5, h6 => by
    have w1 : IntKind.i64.wrap ((m : Int) - (i : Int)) = ((m - i : Nat) : Int) := by rw [wrap_small] <;> omega
    unfold loopW rot
    by_cases e : i = j
    · subst e
      have hb : g_rotate_b1 (m : Int) cmp (s, (i : Int), (i : Int)) = .stop (s, (i : Int), (i : Int)) := by
        unfold g_rotate_b1; simp
      rw [hb]
      simp only [Step.fin_stop, Fin.get_fin, if_true]
      rw [w1, g_swapRange_eq _ _ _ _ _ (by omega) (by omega)]
    · have hne : ((i : Int) != (j : Int)) = true := by simp; omega
      rw [if_neg e]
      by_cases hlt : j < i
      · have hd : decide ((i : Int) > (j : Int)) = true := by simp; omega
        have hb : g_rotate_b1 (m : Int) cmp (s, (i : Int), (j : Int)) = .next (swapR j s (m - i) m, ((i - j : Nat) : Int), (j : Int)) := by
          unfold g_rotate_b1
          simp only [hne, hd, cond_true]
          have w2 : IntKind.i64.wrap ((i : Int) - (j : Int)) = ((i - j : Nat) : Int) := by rw [wrap_small] <;> omega
          rw [w1, w2, g_swapRange_eq _ _ _ _ _ (by omega) (by omega)]
        rw [hb, if_pos hlt]
        exact rotW m cmp n _ (i - j) j k (by omega) h2 (by omega) h4 (by omega) (by omega)
      · have hd : decide ((i : Int) > (j : Int)) = false := by simp; omega
        have hb : g_rotate_b1 (m : Int) cmp (s, (i : Int), (j : Int)) = .next (swapR i s (m - i) (m + j - i), (i : Int), ((j - i : Nat) : Int)) := by
          unfold g_rotate_b1
          simp only [hne, hd, cond_true, cond_false]
          have w2 : IntKind.i64.wrap ((j : Int) - (i : Int)) = ((j - i : Nat) : Int) := by rw [wrap_small] <;> omega
          have w3 : IntKind.i64.wrap (IntKind.i64.wrap ((m : Int) + (j : Int)) - (i : Int)) = ((m + j - i : Nat) : Int) := by
            rw [wrap_small (n := (m : Int) + (j : Int)) (by omega) (by omega), wrap_small] <;> omega
          rw [w1, w2, w3, g_swapRange_eq _ _ _ _ _ (by omega) (by omega)]
        rw [hb, if_neg hlt]
        exact rotW m cmp n _ i (j - i) k h1 (by omega) h3 (by omega) (by omega) (by omega)
theorem g_rotate_eq (l : List α) (a m b : Nat) (cmp : α → α → Int) (h1 : a < m) (h2 : m < b) (h3 : b ≤ 1152921504606846976) : g_rotate l a m b cmp = rot (b - a) l m (m - a) (b - m) := by
  unfold g_rotate
  have w1 : IntKind.i64.wrap ((m : Int) - (a : Int)) = ((m - a : Nat) : Int) := by rw [wrap_small] <;> omega
  have w2 : IntKind.i64.wrap ((b : Int) - (m : Int)) = ((b - m : Nat) : Int) := by rw [wrap_small] <;> omega
  rw [w1, w2]
  exact rotW m cmp _ l (m - a) (b - m) (b - a) (by omega) (by omega) (by omega) (by omega) (by simp only; omega) (by omega)
/-- A search by halves, as the machine does it. -/
theorem halfW {ρ : Type} {b : Int × Int → Step (Int × Int) ρ} {p : Nat → Bool} (hb : ∀ i j : Nat, i ≤ 1152921504606846976 → j ≤ 1152921504606846976 → b ((i : Int), (j : Int)) = if i < j then (if p ((i + j) / 2) then .next ((((i + j) / 2 + 1 : Nat) : Int), (j : Int)) else .next ((i : Int), (((i + j) / 2 : Nat) : Int))) else .stop ((i : Int), (j : Int))) :
    ∀ (k n i j : Nat), i ≤ j → j - i ≤ k → j - i ≤ n → j ≤ 1152921504606846976 → loopW b n ((i : Int), (j : Int)) = .fin ((half p k i j : Int), (half p k i j : Int))
  | k, n, i, j, h1, h2, h3, h4 => by
    by_cases hlt : i < j
    · obtain ⟨n, rfl⟩ : ∃ n', n = n' + 1 := ⟨n - 1, by omega⟩
      obtain ⟨k, rfl⟩ : ∃ k', k = k' + 1 := ⟨k - 1, by omega⟩
      unfold loopW half
      rw [hb i j (by omega) h4, if_pos hlt, if_pos hlt]
      cases p ((i + j) / 2) with
      | true => simp only [if_true]; exact halfW hb k n _ j (by omega) (by omega) (by omega) h4
      | false => simp only [Bool.false_eq_true, if_false]; exact halfW hb k n i _ (by omega) (by omega) (by omega) (by omega)
    · have e : i = j := by omega
      subst e
      have hh : half p k i i = i := by cases k <;> simp [half]
      rw [hh]
      have hs : b ((i : Int), (i : Int)) = .stop ((i : Int), (i : Int)) := by rw [hb i i h4 h4, if_neg hlt]
      cases n <;> simp [loopW, hs, Step.fin]
theorem midN {i j : Nat} (hi : i ≤ 1152921504606846976) (hj : j ≤ 1152921504606846976) : IntKind.i64.wrap (iShr .u64 (IntKind.u64.wrap (IntKind.i64.wrap ((i : Int) + (j : Int)))) 1) = (((i + j) / 2 : Nat) : Int) := by
  rw [mid_eq] <;> omega
theorem succN {i : Nat} (hi : i ≤ 1152921504606846976) : IntKind.i64.wrap ((i : Int) + 1) = ((i + 1 : Nat) : Int) := by
  rw [wrap_small] <;> omega
theorem predN {i : Nat} (hi : i ≤ 1152921504606846976) (h0 : 0 < i) : IntKind.i64.wrap ((i : Int) - 1) = ((i - 1 : Nat) : Int) := by
  rw [wrap_small] <;> omega
theorem sm_b1 (l : List α) (a : Nat) (cmp : α → α → Int) (i j : Nat) (hi : i ≤ 1152921504606846976) (hj : j ≤ 1152921504606846976) : g_symMerge_b1 l (a : Int) cmp ((i : Int), (j : Int)) =
    if i < j then (if decide (cmp (atD l ((i + j) / 2)) (atD l a) < 0) then .next ((((i + j) / 2 + 1 : Nat) : Int), (j : Int)) else .next ((i : Int), (((i + j) / 2 : Nat) : Int))) else .stop ((i : Int), (j : Int)) := by
  unfold g_symMerge_b1
  simp only
  rw [midN hi hj, succN (i := (i + j) / 2) (by omega)]
  by_cases h : i < j
  · have : decide ((i : Int) < (j : Int)) = true := by simp; omega
    rw [this, if_pos h, cond_true]
    simp only [Bool.cond_eq_ite]
    rfl
  · have : decide ((i : Int) < (j : Int)) = false := by simp; omega
    rw [this, if_neg h]; rfl
theorem sm_b3 (l : List α) (m : Nat) (cmp : α → α → Int) (i j : Nat) (hi : i ≤ 1152921504606846976) (hj : j ≤ 1152921504606846976) : g_symMerge_b3 l (m : Int) cmp ((i : Int), (j : Int)) =
    if i < j then (if !decide (cmp (atD l m) (atD l ((i + j) / 2)) < 0) then .next ((((i + j) / 2 + 1 : Nat) : Int), (j : Int)) else .next ((i : Int), (((i + j) / 2 : Nat) : Int))) else .stop ((i : Int), (j : Int)) := by
  unfold g_symMerge_b3
  simp only
  rw [midN hi hj, succN (i := (i + j) / 2) (by omega)]
  by_cases h : i < j
  · have : decide ((i : Int) < (j : Int)) = true := by simp; omega
    rw [this, if_pos h, cond_true]
    simp only [Bool.cond_eq_ite]
    rfl
  · have : decide ((i : Int) < (j : Int)) = false := by simp; omega
    rw [this, if_neg h]; rfl
theorem half_bd {p : Nat → Bool} : ∀ (k i j : Nat), i ≤ j → i ≤ half p k i j ∧ half p k i j ≤ j
  | 0, i, j, h => ⟨Nat.le_refl _, h⟩
  | k + 1, i, j, h => by
    unfold half
    split
    · split
      · have := half_bd (p := p) k ((i + j) / 2 + 1) j (by omega); omega
      · have := half_bd (p := p) k i ((i + j) / 2) (by omega); omega
    · omega
theorem upC (a : Nat) : ∀ (k i : Nat) (s : List α), a + i + k ≤ 1152921504606846976 → loopC (g_symMerge_b2 (a : Int)) i s k = .fin (up k s (a + i))
  | 0, i, s, _ => rfl
  | k + 1, i, s, h => by
    unfold loopC
    have e : g_symMerge_b2 (a : Int) i s = .next (swp s (a + i) (a + i + 1)) := by
      unfold g_symMerge_b2 swp
      have w : IntKind.i64.wrap (((a : Int) + ((i : Nat) : Int)) + 1) = ((a + i + 1 : Nat) : Int) := by rw [wrap_small] <;> omega
      rw [w]
      rfl
    rw [e]
    simp only
    rw [upC a k (i + 1) _ (by omega)]
    rfl
theorem downW (i : Nat) (z : Int) : ∀ (n k : Nat) (s : List α), i ≤ k → k - i ≤ n → k ≤ 1152921504606846976 → loopW (g_symMerge_b4 ((i : Int), z)) n (s, (k : Int)) = .fin (down (k - i) s k, (i : Int))
  | n, k, s, h1, h2, h3 => by
    by_cases e : k = i
    · subst e
      have hb : g_symMerge_b4 ((k : Int), z) (s, (k : Int)) = .stop (s, (k : Int)) := by unfold g_symMerge_b4; simp
      rw [Nat.sub_self, down]
      cases n <;> simp [loopW, hb, Step.fin]
    · obtain ⟨n, rfl⟩ : ∃ n', n = n' + 1 := ⟨n - 1, by omega⟩
      have hd : decide ((k : Int) > (i : Int)) = true := by simp; omega
      have hb : g_symMerge_b4 ((i : Int), z) (s, (k : Int)) = .next (swp s k (k - 1), ((k - 1 : Nat) : Int)) := by
        unfold g_symMerge_b4 swp
        simp only [hd, cond_true]
        rw [predN h3 (by omega)]
        rfl
      unfold loopW
      rw [hb]
      simp only
      rw [downW i z n (k - 1) _ (by omega) (by omega) (by omega), show k - i = (k - 1 - i) + 1 by omega, down]
theorem sm_b6 (l : List α) (a b m : Nat) (cmp : α → α → Int) (h1 : a ≤ 576460752303423488) (h2 : b ≤ 576460752303423488) (h3 : m ≤ 576460752303423488) (i j : Nat) (hi : i ≤ 1152921504606846976) (hj : j ≤ 1152921504606846976) : g_symMerge_b6 l (a : Int) (b : Int) (m : Int) cmp ((i : Int), (j : Int)) =
    if i < j then (if !decide (cmp (atD l ((a + b) / 2 + m - 1 - (i + j) / 2)) (atD l ((i + j) / 2)) < 0) then .next ((((i + j) / 2 + 1 : Nat) : Int), (j : Int)) else .next ((i : Int), (((i + j) / 2 : Nat) : Int))) else .stop ((i : Int), (j : Int)) := by
  unfold g_symMerge_b6
  simp only
  rw [midN hi hj, succN (i := (i + j) / 2) (by omega), midN (by omega) (by omega)]
  have w1 : IntKind.i64.wrap ((((a + b) / 2 : Nat) : Int) + (m : Int)) = (((a + b) / 2 + m : Nat) : Int) := by rw [wrap_small] <;> omega
  have w2 : IntKind.i64.wrap ((((a + b) / 2 + m : Nat) : Int) - 1) = (((a + b) / 2 + m : Nat) : Int) - 1 := by rw [wrap_small] <;> omega
  have w3 : (IntKind.i64.wrap ((((a + b) / 2 + m : Nat) : Int) - 1 - (((i + j) / 2 : Nat) : Int))).toNat = (a + b) / 2 + m - 1 - (i + j) / 2 := by rw [wrap_small] <;> omega
  rw [w1, w2, w3]
  by_cases h : i < j
  · have : decide ((i : Int) < (j : Int)) = true := by simp; omega
    rw [this, if_pos h, cond_true]
    simp only [Bool.cond_eq_ite]
    rfl
  · have : decide ((i : Int) < (j : Int)) = false := by simp; omega
    rw [this, if_neg h]; rfl
theorem g_sym_eq (cmp : α → α → Int) : ∀ (n : Nat) (l : List α) (a m b : Nat), a < m → m < b → b ≤ 576460752303423488 → b - a < n → g_symMergeR n l (a : Int) (m : Int) (b : Int) cmp = symM (fun x y => decide (cmp x y < 0)) n l a m b
  | 0, l, a, m, b, h1, h2, h3, h4 => by omega
  | n + 1, l, a, m, b, h1, h2, h3, h4 => by
    have w1 : IntKind.i64.wrap ((m : Int) - (a : Int)) = ((m - a : Nat) : Int) := by rw [wrap_small] <;> omega
    have w2 : IntKind.i64.wrap ((b : Int) - (m : Int)) = ((b - m : Nat) : Int) := by rw [wrap_small] <;> omega
    unfold g_symMergeR symM
    rw [w1, w2]
    by_cases c1 : m - a = 1
    · have hq : (((m - a : Nat) : Int) == 1) = true := by rw [c1]; rfl
      rw [hq, if_pos c1, cond_true]
      have hh := halfW (p := fun h => decide (cmp (atD l h) (atD l a) < 0)) (b := g_symMerge_b1 l (a : Int) cmp) (sm_b1 l a cmp) (b - m) ((b : Int) - (m : Int)).toNat m b (by omega) (Nat.le_refl _) (by omega) (by omega)
      simp only
      rw [hh]
      simp only [Fin.get_fin]
      have hb := half_bd (p := fun h => decide (cmp (atD l h) (atD l a) < 0)) (b - m) m b (by omega)
      generalize half (fun h => decide (cmp (atD l h) (atD l a) < 0)) (b - m) m b = r at hb
      rw [predN (i := r) (by omega) (by omega), show (((r - 1 : Nat) : Int) - (a : Int)).toNat = r - 1 - a by omega, upC a _ 0 l (by omega)]
      rfl
    · have hq : (((m - a : Nat) : Int) == 1) = false := by simp; omega
      rw [hq, if_neg c1, cond_false]
      by_cases c2 : b - m = 1
      · have hq2 : (((b - m : Nat) : Int) == 1) = true := by rw [c2]; rfl
        rw [hq2, if_pos c2, cond_true]
        have hh := halfW (p := fun h => !decide (cmp (atD l m) (atD l h) < 0)) (b := g_symMerge_b3 l (m : Int) cmp) (sm_b3 l m cmp) (m - a) ((m : Int) - (a : Int)).toNat a m (by omega) (Nat.le_refl _) (by omega) (by omega)
        simp only
        rw [hh]
        simp only [Fin.get_fin]
        have hb := half_bd (p := fun h => !decide (cmp (atD l m) (atD l h) < 0)) (m - a) a m (by omega)
        generalize half (fun h => !decide (cmp (atD l m) (atD l h) < 0)) (m - a) a m = r at hb
        rw [downW r _ _ m l (by omega) (by omega) (by omega)]
        rfl
      · have hq2 : (((b - m : Nat) : Int) == 1) = false := by simp; omega
        rw [hq2, if_neg c2, cond_false]
        have hmid : IntKind.i64.wrap (iShr .u64 (IntKind.u64.wrap (IntKind.i64.wrap ((a : Int) + (b : Int)))) 1) = (((a + b) / 2 : Nat) : Int) := midN (by omega) (by omega)
        have hnn : IntKind.i64.wrap ((((a + b) / 2 : Nat) : Int) + (m : Int)) = (((a + b) / 2 + m : Nat) : Int) := by rw [wrap_small] <;> omega
        obtain ⟨s0, hs0⟩ : ∃ s0, s0 = (if (a + b) / 2 < m then (a + b) / 2 + m - b else a) := ⟨_, rfl⟩
        obtain ⟨r0, hr0⟩ : ∃ r0, r0 = (if (a + b) / 2 < m then (a + b) / 2 else m) := ⟨_, rfl⟩
        have bd : a ≤ s0 ∧ s0 ≤ r0 ∧ r0 ≤ m := by
          by_cases h : (a + b) / 2 < m
          · rw [if_pos h] at hs0 hr0; omega
          · rw [if_neg h] at hs0 hr0; omega
        have hj5 : (g_symMerge_j5 (m : Int) (a : Int) (b : Int) : Step (Int × Int) (List α)) = .next ((s0 : Int), (r0 : Int)) := by
          unfold g_symMerge_j5
          rw [hmid, hnn]
          by_cases h : (a + b) / 2 < m
          · rw [if_pos h] at hs0 hr0
            have hd : decide ((m : Int) > (((a + b) / 2 : Nat) : Int)) = true := by simp; omega
            have w3 : IntKind.i64.wrap ((((a + b) / 2 + m : Nat) : Int) - (b : Int)) = (s0 : Int) := by rw [wrap_small] <;> omega
            rw [hd, w3, cond_true, hr0]
          · rw [if_neg h] at hs0 hr0
            have hd : decide ((m : Int) > (((a + b) / 2 : Nat) : Int)) = false := by simp; omega
            rw [hd, cond_false, hr0, hs0]
        rw [hj5]
        simp only [Step.get]
        have hh := halfW (p := fun c => !decide (cmp (atD l ((a + b) / 2 + m - 1 - c)) (atD l c) < 0)) (b := g_symMerge_b6 l (a : Int) (b : Int) (m : Int) cmp) (sm_b6 l a b m cmp (by omega) (by omega) (by omega)) (r0 - s0) ((r0 : Int) - (s0 : Int)).toNat s0 r0 (by omega) (Nat.le_refl _) (by omega) (by omega)
        rw [hh]
        simp only [Fin.get_fin]
        rw [← hs0, ← hr0]
        have hb := half_bd (p := fun c => !decide (cmp (atD l ((a + b) / 2 + m - 1 - c)) (atD l c) < 0)) (r0 - s0) s0 r0 (by omega)
        generalize half (fun c => !decide (cmp (atD l ((a + b) / 2 + m - 1 - c)) (atD l c) < 0)) (r0 - s0) s0 r0 = s at hb
        have hend : IntKind.i64.wrap ((((a + b) / 2 + m : Nat) : Int) - (s : Int)) = (((a + b) / 2 + m - s : Nat) : Int) := by rw [wrap_small] <;> omega
        obtain ⟨e, he⟩ : ∃ e, e = (a + b) / 2 + m - s := ⟨_, rfl⟩
        rw [hmid, hnn, hend, ← he]
        have hj7 : g_symMerge_j7 ((s : Int), (s : Int)) (m : Int) (a : Int) (b : Int) l cmp = .next (if s < m ∧ m < e then rot (e - s) l m (m - s) (e - m) else l) := by
          unfold g_symMerge_j7
          simp only
          rw [hmid, hnn, hend, ← he]
          by_cases d1 : s < m
          · have k1 : decide ((s : Int) < (m : Int)) = true := by simp; omega
            rw [k1, cond_true]
            by_cases d2 : m < e
            · have k2 : decide ((m : Int) < (e : Int)) = true := by simp; omega
              rw [k2, cond_true, if_pos ⟨d1, d2⟩, g_rotate_eq _ _ _ _ _ d1 d2 (by omega)]
            · have k2 : decide ((m : Int) < (e : Int)) = false := by simp; omega
              rw [k2, cond_false, if_neg (fun h => d2 h.2)]
          · have k1 : decide ((s : Int) < (m : Int)) = false := by simp; omega
            rw [k1, cond_false, if_neg (fun h => d1 h.1)]
        rw [hj7]
        simp only [Step.get]
        generalize (if s < m ∧ m < e then rot (e - s) l m (m - s) (e - m) else l) = l1
        have hj8 : g_symMerge_j8 (g_symMergeR n) (a : Int) ((s : Int), (s : Int)) (b : Int) l1 cmp = .next (if a < s ∧ s < (a + b) / 2 then symM (fun x y => decide (cmp x y < 0)) n l1 a s ((a + b) / 2) else l1) := by
          unfold g_symMerge_j8
          simp only
          rw [hmid]
          by_cases d1 : a < s
          · have k1 : decide ((a : Int) < (s : Int)) = true := by simp; omega
            rw [k1, cond_true]
            by_cases d2 : s < (a + b) / 2
            · have k2 : decide ((s : Int) < (((a + b) / 2 : Nat) : Int)) = true := by simp; omega
              rw [k2, cond_true, if_pos ⟨d1, d2⟩, g_sym_eq cmp n l1 a s ((a + b) / 2) d1 d2 (by omega) (by omega)]
            · have k2 : decide ((s : Int) < (((a + b) / 2 : Nat) : Int)) = false := by simp; omega
              rw [k2, cond_false, if_neg (fun h => d2 h.2)]
          · have k1 : decide ((a : Int) < (s : Int)) = false := by simp; omega
            rw [k1, cond_false, if_neg (fun h => d1 h.1)]
        rw [hj8]
        simp only [Step.get]
        generalize (if a < s ∧ s < (a + b) / 2 then symM (fun x y => decide (cmp x y < 0)) n l1 a s ((a + b) / 2) else l1) = l2
        by_cases d1 : (a + b) / 2 < e
        · have k1 : decide ((((a + b) / 2 : Nat) : Int) < (e : Int)) = true := by simp; omega
          rw [k1, cond_true]
          by_cases d2 : e < b
          · have k2 : decide ((e : Int) < (b : Int)) = true := by simp; omega
            rw [k2, cond_true, if_pos ⟨d1, d2⟩, g_sym_eq cmp n l2 ((a + b) / 2) e b d1 d2 h3 (by omega)]
          · have k2 : decide ((e : Int) < (b : Int)) = false := by simp; omega
            rw [k2, cond_false, if_neg (fun h => d2 h.2)]
        · have k1 : decide ((((a + b) / 2 : Nat) : Int) < (e : Int)) = false := by simp; omega
          rw [k1, cond_false, if_neg (fun h => d1 h.1)]
end Go.Ev
