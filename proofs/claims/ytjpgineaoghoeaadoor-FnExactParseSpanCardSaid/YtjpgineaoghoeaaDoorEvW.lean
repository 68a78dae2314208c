/- The end of a row: its arguments as trees, its call. -/
import Derived.Test.YtjpgineaoghoeaaDoorEvV
import Derived.Test.YtjpgineaoghoeaaDoorEvU
import Derived.ChangeShapes
import Derived.WideShapes
set_option linter.unusedSectionVars false
set_option linter.unusedVariables false
set_option linter.unusedSimpArgs false
namespace Go.Ev
open Go
open Classical Go.ChangeShapes Go.WideShapes Go.RowKit

/-- The environment of a program. -/
def envOf (P : Program) : Env := ⟨P, tiOf P, fun _ => [], eqOf P⟩
theorem envOf_ok (P : Program) : EnvOk (envOf P) := ⟨fun _ _ h => tiOf_ok h, eqOf_ok⟩

variable {H : Type} {enc : TypeId × Value → H} {P : Program} {W : World} {sp : Nat → Bool} {held : Bool} {base : Nat} {r : Reach} {t : TypeId} {v : Value} {d : DataW H} {p : List MemPlace}

/-- What an argument reads as. -/
def ArgOf (P : Program) (W : World) (n t : Nat) (v : Value) (x : AV) : Prop :=
  RoRep W (InW W) x v ∧ ((∃ l, x = .agg l ∧ Shape P n t l ∧ ∃ fs, P.underlying t = some (.struct fs)) ∨ (∃ y, x = .one y ∧ Shape P n t [y] ∧ ∀ fs, P.underlying t ≠ some (.struct fs)))

theorem arg_of_trod (n : Nat) (ho : okT P n t = true) (hv : Value.okWide P W r base t v) (h : DataW.Trod enc P W 0 sp held t v d p) : ∃ x, ArgOf P W n t v x := by
  obtain ⟨fuel, h⟩ := h
  obtain ⟨l, q1, q2, q3⟩ := shape_of_trod fuel n t _ _ ho h
  have plain : v.cells = #[v] → (∀ fs, P.underlying t ≠ some (.struct fs)) → ∃ x, ArgOf P W n t v x := by
    intro hc hs
    rw [hc] at q1 q3
    rcases l with _ | ⟨y, _ | ⟨z, l⟩⟩
    · simp at q1
    · exact ⟨.one y, q3 0 y v rfl rfl, .inr ⟨y, rfl, q2, hs⟩⟩
    · simp at q1
  cases n with
  | zero => cases ho
  | succ n =>
    unfold okT at ho
    cases hu : P.underlying t with
    | none => rw [hu] at ho; cases ho
    | some dd =>
      rw [hu] at ho
      cases dd with
      | bool => obtain ⟨b, rfl⟩ := okWide_bool hu hv; exact plain rfl (by simp [hu])
      | int k => obtain ⟨b, rfl⟩ := okWide_int hu hv; exact plain rfl (by simp [hu])
      | string => obtain ⟨b, rfl⟩ := okWide_string hu hv; exact plain rfl (by simp [hu])
      | slice e => obtain ⟨_, _, _, rfl⟩ := okWide_slice hu hv; exact plain rfl (by simp [hu])
      | struct fs =>
        simp only [Value.okWide, hu] at hv
        obtain ⟨cs, rfl, h1, _⟩ := hv
        exact ⟨.agg l, ⟨cs, rfl, by simpa [Value.cells] using q1.symm, fun j x u hj hu => q3 j x u hj (by simpa [Value.cells] using hu)⟩, .inl ⟨l, rfl, q2, fs, hu⟩⟩
      | _ => cases ho

/-- The arguments of a call. -/
theorem args_nil : ArgsRep W (InW W) (fun _ => none) 0 [] [] := trivial
theorem args_cons {x : AV} {l : List AV} {vs : List Value} (h : RoRep W (InW W) x v) (hs : ArgsRep W (InW W) (fun _ => none) 0 l vs) : ArgsRep W (InW W) (fun _ => none) 0 (x :: l) (v :: vs) := .cons_ro h hs

/-- A contract, of a law. -/
theorem FnOk.calls {f : Nat} {args : List AV} {vals : Array Value} {x : Value} (h : FnOk P f args ⟨.one (.v x), [], [], false⟩) (hG : GOk P W (InW W)) (ha : ArgsRep W (InW W) (fun _ => none) 0 args vals.toList) :
    Calls P f vals W fun e w' => e = .returned x ∧ Below W.heap.size W w' := by
  refine (h.run W (InW W) (fun _ => none) vals ha (fun b hb => ⟨hb, rfl⟩) (fun b i hb => by cases hb) hG).mono ?_
  rintro e w' ⟨v, lab', rfl, hA, hR, _⟩
  have hv : v = x := by
    have hR : Ow w' _ _ v (.v x) := hR
    cases hR
    rfl
  subst hv
  exact ⟨rfl, ⟨hA.os, hA.tape, hA.output, hA.size, fun b hb => (hA.blk b hb rfl).1⟩⟩
end Go.Ev
