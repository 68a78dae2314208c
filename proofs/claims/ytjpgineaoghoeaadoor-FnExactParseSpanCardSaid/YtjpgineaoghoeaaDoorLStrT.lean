/- Contracts of the library's that read plain values: Cut at one byte, IndexByte, a number that is read. -/
import Derived.Test.YtjpgineaoghoeaaDoorLItoaT
import Derived.Shelf.Strings.Search2
import Derived.Shelf.Small.Strs
import Derived.Lib.CutLaws
import Derived.BigCall
import Derived.BigGuard
import Derived.Deep.Draws
import Derived.Laws.Strings3
set_option linter.unusedSectionVars false
set_option linter.unusedVariables false
set_option linter.unusedSimpArgs false
namespace Go.Ev
open Go Go.Proofs Go.Shelf Go.RowKit
/-- Plain answers. -/
def ResV : AV → Value → Prop
  | .one (.v x), r => r = x ∧ fit x = true
  | .tup l, .tuple vs => vs.toList.length = l.length ∧ ∀ (j : Nat) a u, l[j]? = some a → vs[j]? = some u → ∃ x, a = .one (.v x) ∧ u = x ∧ fit x = true
  | _, _ => False
theorem argsV {w : World} {A : Nat → Prop} {lab : Nat → Option Nat} : ∀ (xs : List Value) (vs : List Value) (k : Nat), ArgsRep w A lab k (xs.map fun x => .one (.v x)) vs → vs = xs ∧ ∀ x ∈ xs, fit x = true
  | [], [], _, _ => ⟨rfl, fun _ h => by cases h⟩
  | [], _ :: _, _, h => h.elim
  | _ :: _, [], _, h => h.elim
  | x :: xs, v :: vs, k, h => by
    have h1 : Fz w A v (.v x) := h.1
    obtain ⟨e, h2⟩ := argsV xs vs k h.2
    cases h1 with
    | v _ hf => exact ⟨by rw [e], fun y hy => by rcases List.mem_cons.1 hy with rfl | hy; exact hf; exact h2 y hy⟩
theorem FnOk.ofCallsN {P : Program} {f : Nat} {xs : List Value} {out : AV} {r : Value} (hf : ∃ fn, P.funcs[f]? = some fn ∧ (fn.name == "runtime.NumGoroutine") = false ∧ fn.body.isSome = true) (hr : (∀ x ∈ xs, fit x = true) → ResV out r)
    (h : ∀ (w : World) (A : Nat → Prop), (∀ x ∈ xs, fit x = true) → GOk P w A → Calls P f xs.toArray w fun e w' => e = .returned r ∧ Below w.heap.size w w') :
    FnOk P f (xs.map fun x => .one (.v x)) ⟨out, [], [], false⟩ := by
  refine ⟨hf, fun w A lab vals hA hAl hl hG => ?_⟩
  obtain ⟨e, hfit⟩ := argsV xs vals.toList 0 hA
  obtain rfl : vals = xs.toArray := by rw [← e]
  refine (h w A hfit hG).mono ?_
  rintro e w' ⟨rfl, hB⟩
  have hr := hr hfit
  refine ⟨r, fun b => if b < w.heap.size then lab b else none, rfl, ⟨hB.os, hB.tape, hB.output, hB.size, fun b hb hn => ⟨hB.block b hb, ?_⟩, fun b i hi => ?_, fun b hb => bsz_of (hB.block b hb)⟩, ?_, ?_⟩
  · simp [hb, hn]
  · by_cases hb : b < w.heap.size
    · have := hB.size; omega
    · simp [hb] at hi
  · cases out with
    | one t =>
      cases t with
      | v x => obtain ⟨rfl, hx⟩ := hr; exact Ow.v _ _ hx
      | _ => exact hr.elim
    | tup l =>
      cases r with
      | tuple vs =>
        obtain ⟨h1, h2⟩ := hr
        refine ⟨vs, fun _ _ => False, rfl, by simpa using h1, fun j a u ha hu => ?_, fun _ _ _ h => h.elim, fun _ _ h => h.elim⟩
        obtain ⟨x, rfl, rfl, hx⟩ := h2 j a u ha hu
        exact Ow.v _ _ hx
      | _ => exact hr.elim
    | _ => exact hr.elim
  · have : ∀ (xs : List Value) (vs : List Value) (k : Nat), vs.length = xs.length → OutsRep w w' (fun b => A b ∨ NewF w.heap.size lab (fun b => if b < w.heap.size then lab b else none) b) (fun b => if b < w.heap.size then lab b else none) k (xs.map fun x => .one (.v x)) vs [] [] := by
      intro xs
      induction xs with
      | nil => intro vs k hl; cases vs with | nil => trivial | cons _ _ => simp at hl
      | cons x xs ih => intro vs k hl; cases vs with | nil => simp at hl | cons v vs => exact ih vs k (by simpa using hl)
    exact this xs _ 0 (by simp)
/-- The bytes of a text. -/
def bL (s : ByteArray) : List UInt8 := s.data.toList
def indexByteS (s : ByteArray) (c : Int) : Int := Lib.indexByte s.data.toList c.toNat.toUInt8
def cutS (s sep : ByteArray) : ByteArray × ByteArray × Bool := (⟨(Lib.cut s.data.toList sep.data.toList).1.toArray⟩, ⟨(Lib.cut s.data.toList sep.data.toList).2.1.toArray⟩, (Lib.cut s.data.toList sep.data.toList).2.2)
theorem fitI_index {l : List UInt8} {c : UInt8} (h : l.length ≤ 9223372036854775807) : fit (.int .i64 (Lib.indexByte l c)) = true := by
  have h1 := Lib.indexByte_ge l c
  have h2 : Lib.indexByte l c ≤ (l.length : Int) := by
    clear h h1
    induction l with
    | nil => simp [Lib.indexByte]
    | cons b l ih => unfold Lib.indexByte; rw [List.length_cons]; repeat' split <;> omega
  show fitI .i64 _ = true
  generalize Lib.indexByte l c = n at h1 h2
  cases n with
  | ofNat k => exact Nat.ble_eq_true_of_le (by have : (k : Int) ≤ l.length := h2; show k ≤ 9223372036854775807; omega)
  | negSucc k =>
    have : k = 0 := by omega
    subst this
    rfl
theorem fit_size {s : ByteArray} (h : fit (.string s) = true) : s.data.toList.length ≤ 9223372036854775807 := by
  have := Nat.le_of_ble_eq_true (show Nat.ble s.size 9223372036854775807 = true from h)
  rw [Array.length_toList]; exact this
theorem indexByte_contract {P : Program} {ρ : Go.Shelf.Ren} (L : Lays.n137 P ρ) (hf : ∃ fn, P.funcs[ρ.f 137]? = some fn ∧ (fn.name == "runtime.NumGoroutine") = false ∧ fn.body.isSome = true) (s : ByteArray) (c : Int) :
    FnOk P (ρ.f 137) [.one (.v (.string s)), .one (.v (.int .u8 c))] ⟨.one (.v (.int .i64 (indexByteS s c))), [], [], false⟩ :=
  FnOk.ofCallsN (xs := [.string s, .int .u8 c]) hf (fun hx => ⟨rfl, fitI_index (fit_size (hx (.string s) (by simp)))⟩) (fun w A hx hG =>
    (Any.strings_IndexByte L s c w).mono (by rintro e w' ⟨rfl, rfl⟩; exact ⟨rfl, Below.refl _ _⟩))
end Go.Ev
