/- Marks: what is set, one number behind the other, and what is still held of it. -/
import Derived.Test.YtjpgineaoghoeaaDoorEvIns
set_option linter.unusedSectionVars false
set_option linter.unusedVariables false
set_option linter.unusedSimpArgs false
namespace Go.Ev
open Go
section
variable {α : Type} [Inhabited α]
/-- How many numbers. -/
def csum (c : α → Nat) : List α → Nat
  | [] => 0
  | a :: l => c a + csum c l
theorem csum_le {c : α → Nat} {B : Nat} : ∀ {l : List α}, (∀ a ∈ l, c a ≤ B) → csum c l ≤ B * l.length
  | [], _ => Nat.zero_le _
  | a :: l, h => by
    have h1 := h a (by simp)
    have h2 := csum_le (c := c) (B := B) (l := l) (fun x hx => h x (by simp [hx]))
    simp only [csum, List.length_cons, Nat.mul_succ]; omega
theorem csum_const (n : Nat) : ∀ (l : List α), csum (fun _ => n) l = n * l.length
  | [] => rfl
  | a :: l => by simp only [csum, csum_const n l, List.length_cons, Nat.mul_succ]; omega
/-- The list, marked from k on. -/
def markL (M : α → Int → α) (c : α → Nat) : Int → List α → List α
  | _, [] => []
  | k, a :: l => M a k :: markL M c (k + c a) l
theorem markL_len {M : α → Int → α} {c : α → Nat} : ∀ (l : List α) (k : Int), (markL M c k l).length = l.length
  | [], _ => rfl
  | a :: l, k => by simp [markL, markL_len l]
theorem mark_loop {ρ : Type} {mb : Nat → (List α × Int) → α → Step (List α × Int) ρ} {M : α → Int → α} {c : α → Nat} {Pd : α → Prop} (hb : ∀ i (s : List α × Int) a, Pd (s.1[i]?.getD default) → 1 ≤ s.2 → s.2 + c (s.1[i]?.getD default) ≤ 9223372036854775807 → mb i s a = .next (s.1.set i (M (s.1[i]?.getD default) s.2), s.2 + c (s.1[i]?.getD default))) :
    ∀ (r r0 d : List α) (k : Int), r0.length = r.length → (∀ a ∈ r, Pd a) → 1 ≤ k → k + csum c r ≤ 9223372036854775807 → loopL mb d.length (d ++ r, k) r0 = .fin (d ++ markL M c k r, k + csum c r)
  | [], [], d, k, _, _, _, _ => by simp [loopL, markL, csum]
  | [], _ :: _, _, _, h, _, _, _ => by simp at h
  | _ :: _, [], _, _, h, _, _, _ => by simp at h
  | a :: r, b :: r0, d, k, h, hP, h1, h2 => by
    simp only [csum] at h2
    unfold loopL
    have e : (d ++ a :: r)[d.length]?.getD default = a := by simp
    rw [hb _ _ _ (by rw [e]; exact hP a (by simp)) h1 (by rw [e]; simp only; omega)]
    simp only [e]
    have es : (d ++ a :: r).set d.length (M a k) = (d ++ [M a k]) ++ r := by
      rw [List.set_append_right _ _ (Nat.le_refl _), Nat.sub_self, List.set_cons_zero]; simp
    have := mark_loop hb r r0 (d ++ [M a k]) (k + c a) (by simpa using h) (fun x hx => hP x (by simp [hx])) (by omega) (by omega)
    rw [es]
    simp only [List.length_append, List.length_cons, List.length_nil] at this
    rw [this]
    simp only [markL, csum]
    simp [Int.add_assoc]
theorem held_loop {hb : Nat → Int → α → Step Int Int} {M : α → Int → α} {c : α → Nat} {Pd : α → Prop} (hh : ∀ (i : Nat) (s : Int) (a : α), Pd a → 1 ≤ s → s + c a ≤ 9223372036854775807 → hb i s (M a s) = .next (s + c a)) :
    ∀ (l : List α) (i : Nat) (k : Int), (∀ a ∈ l, Pd a) → 1 ≤ k → k + csum c l ≤ 9223372036854775807 → loopL hb i k (markL M c k l) = .fin (k + csum c l)
  | [], i, k, _, _, _ => by simp [loopL, markL, csum]
  | a :: l, i, k, hP, h1, h2 => by
    simp only [csum] at h2
    unfold markL loopL
    rw [hh _ _ _ (hP a (by simp)) h1 (by omega)]
    simp only
    rw [held_loop hh l (i + 1) _ (fun x hx => hP x (by simp [hx])) (by omega) (by omega)]
    simp only [csum]
    simp [Int.add_assoc]
end
end Go.Ev
namespace Go.Ev
theorem flat1_len {α β : Type} {g : α → List β} (h : ∀ a, (g a).length ≤ 1) : ∀ l : List α, (l.flatMap g).length ≤ l.length
  | [] => Nat.le_refl _
  | a :: l => by
    have h1 := h a
    have h2 := flat1_len h l
    simp only [List.flatMap_cons, List.length_append, List.length_cons]; omega
theorem flatMap_mapE {α β γ : Type} (f : α → β) (g : β → List γ) : ∀ l : List α, (l.map f).flatMap g = l.flatMap (fun a => g (f a))
  | [] => rfl
  | a :: l => by simp [flatMap_mapE f g l]
theorem flatMap_congrE {α β : Type} {f g : α → List β} : ∀ {l : List α}, (∀ a ∈ l, f a = g a) → l.flatMap f = l.flatMap g
  | [], _ => rfl
  | a :: l, h => by rw [List.flatMap_cons, List.flatMap_cons, h a (by simp), flatMap_congrE (fun x hx => h x (by simp [hx]))]
end Go.Ev
