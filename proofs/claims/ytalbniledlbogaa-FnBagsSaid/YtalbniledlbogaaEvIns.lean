/- Insertion by a key, and loops that append. -/
import Derived.Test.YtalbniledlbogaaEvS
set_option linter.unusedSectionVars false
set_option linter.unusedVariables false
set_option linter.unusedSimpArgs false
namespace Go.Ev
open Go
theorem flat_len' {α β : Type} (g : α → List β) (N : Nat) : ∀ l : List α, (∀ a ∈ l, (g a).length ≤ N) → (l.flatMap g).length ≤ N * l.length
  | [], _ => Nat.zero_le _
  | a :: l, h => by
    have h1 := h a (by simp)
    have h2 := flat_len' g N l (fun x hx => h x (by simp [hx]))
    simp only [List.flatMap_cons, List.length_append, List.length_cons, Nat.mul_succ]; omega
theorem loopW_stop {σ ρ : Type} {b : σ → Step σ ρ} {s v : σ} (h : b s = .stop v) (n : Nat) : loopW b n s = .fin v := by
  cases n <;> simp [loopW, h, Step.fin]
theorem len_fin {σ ρ : Type} {P : σ → Prop} {Q : ρ → Prop} {k : σ → ρ} {l : Fin σ ρ} (h : (∀ v, l = .fin v → P v) ∧ ∀ r, l = .done r → Q r) (hk : ∀ v, P v → Q (k v)) : Q (Fin.get k l) := by
  cases l with
  | fin v => exact hk v (h.1 v rfl)
  | done r => exact h.2 r rfl
theorem bif_step {σ ρ : Type} {c : Bool} {A B : Step σ ρ} {P : σ → Prop} {Q : ρ → Prop} (hA : (∀ v, A = .next v → P v) ∧ (∀ v, A = .stop v → P v) ∧ ∀ r, A = .done r → Q r) (hB : (∀ v, B = .next v → P v) ∧ (∀ v, B = .stop v → P v) ∧ ∀ r, B = .done r → Q r) :
    (∀ v, (bif c then A else B) = .next v → P v) ∧ (∀ v, (bif c then A else B) = .stop v → P v) ∧ ∀ r, (bif c then A else B) = .done r → Q r := by
  cases c
  · exact hB
  · exact hA
theorem nx_step {σ ρ : Type} {P : σ → Prop} {Q : ρ → Prop} {s : σ} (h : P s) : (∀ v, (Step.next s : Step σ ρ) = .next v → P v) ∧ (∀ v, (Step.next s : Step σ ρ) = .stop v → P v) ∧ ∀ r, (Step.next s : Step σ ρ) = .done r → Q r :=
  ⟨fun v e => by cases e; exact h, fun v e => (by cases e), fun r e => (by cases e)⟩
theorem st_step {σ ρ : Type} {P : σ → Prop} {Q : ρ → Prop} {s : σ} (h : P s) : (∀ v, (Step.stop s : Step σ ρ) = .next v → P v) ∧ (∀ v, (Step.stop s : Step σ ρ) = .stop v → P v) ∧ ∀ r, (Step.stop s : Step σ ρ) = .done r → Q r :=
  ⟨fun v e => (by cases e), fun v e => by cases e; exact h, fun r e => (by cases e)⟩
theorem app_flat {α β ρ : Type} {b : Nat → List β → α → Step (List β) ρ} (g : α → List β) (hb : ∀ i s a, b i s a = .next (s ++ g a)) : ∀ (l : List α) (i : Nat) (s : List β), loopL b i s l = .fin (s ++ l.flatMap g)
  | [], i, s => by simp [loopL]
  | a :: l, i, s => by
    unfold loopL
    rw [hb]
    simp only
    rw [app_flat g hb l (i + 1) _]
    simp
theorem mid_eq1 {a b : Int} (ha : 0 ≤ a) (hb : 0 ≤ b) (h : a + b ≤ 4611686018427387904) : IntKind.i64.wrap (iShr .u64 (IntKind.u64.wrap (a + b)) 1) = (a + b) / 2 := by
  have := mid_eq ha hb h
  rw [wrap_small (n := a + b) (by omega) (by omega)] at this
  exact this
theorem mid_eq2 {a b : Int} (ha : 0 ≤ a) (hb : 0 ≤ b) (h : a + b ≤ 4611686018427387904) : IntKind.i64.wrap (Int.fdiv (IntKind.u64.wrap (a + b)) (2 ^ (min 1 IntKind.u64.bits))) = (a + b) / 2 := mid_eq1 ha hb h
theorem mid_eq3 {a b : Int} (ha : 0 ≤ a) (hb : 0 ≤ b) (h : a + b ≤ 4611686018427387904) : IntKind.i64.wrap (Int.fdiv (IntKind.u64.wrap (a + b)) (2 ^ (min (Int.toNat 1) IntKind.u64.bits))) = (a + b) / 2 := mid_eq1 ha hb h
section
variable {α : Type} [Inhabited α] (key : α → Int)
def insN (s : List α) (x : Int) : Nat → Nat
  | 0 => 0
  | k + 1 => if key (s[k]?.getD default) > x then insN s x k else k + 1
def ins (s : List α) (a : α) : List α := s.take (insN key s (key a) s.length) ++ a :: s.drop (insN key s (key a) s.length)
def insAll : List α → List α → List α
  | s, [] => s
  | s, a :: l => insAll (ins key s a) l
theorem insAll_append (l m : List α) : ∀ s : List α, insAll key s (l ++ m) = insAll key (insAll key s l) m := by
  induction l with
  | nil => intro s; rfl
  | cons a l ih => intro s; exact ih _
theorem insN_le (s : List α) (x : Int) : ∀ k, insN key s x k ≤ k
  | 0 => Nat.le_refl _
  | k + 1 => by
    have := insN_le s x k
    unfold insN; split <;> omega
theorem ins_len (s : List α) (a : α) : (ins key s a).length = s.length + 1 := by
  have := insN_le key s (key a) s.length
  unfold ins
  simp only [List.length_append, List.length_take, List.length_cons, List.length_drop]; omega
end
end Go.Ev
