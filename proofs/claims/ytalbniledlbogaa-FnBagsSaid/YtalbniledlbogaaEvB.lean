/- What a state says of a world. -/
import Derived.Test.YtalbniledlbogaaEvA
set_option linter.unusedSectionVars false
set_option linter.unusedVariables false
set_option linter.unusedSimpArgs false
namespace Go.Ev
open Go

/-- Memory that no one writes: read as a tree. -/
inductive Fz (w : World) (A : Nat → Prop) : Value → T → Prop
  | v (x : Value) (h1 : fit x = true) : Fz w A x (.v x)
  | h (x : Value) (h1 : fit x = true) : Fz w A x .h
  | nil (a : Option Addr) (c : Nat) (o : Bool) (k : Nat) : Fz w A (.slice a 0 c) (.s o k [])
  | s (b f c : Nat) (o : Bool) (k : Nat) (rows : List (List T)) (vals : Nat → Nat → Value) (hA : A b) (hb : b < w.heap.size) (hlc : rows.length ≤ c) (hln : Nat.ble rows.length 9223372036854775807 = true)
      (hk : ∀ r ∈ rows, r.length = k) (hc : ∀ i j, i < rows.length → j < k → w.cell? ⟨b, f + i * k + j, none⟩ = some (vals i j))
      (ht : ∀ (i j : Nat) (r : List T) (t : T), rows[i]? = some r → r[j]? = some t → Fz w A (vals i j) t) : Fz w A (.slice (some ⟨b, f, none⟩) rows.length c) (.s o k rows)
  | q (b f : Nat) (k : Nat) (rows : List (List T)) (row off : Nat) (vals : Nat → Nat → Value) (hA : A b) (hb : b < w.heap.size) (hrr : row < rows.length)
      (hk : ∀ r ∈ rows, r.length = k) (hc : ∀ i j, i < rows.length → j < k → w.cell? ⟨b, f + i * k + j, none⟩ = some (vals i j))
      (ht : ∀ (i j : Nat) (r : List T) (t : T), rows[i]? = some r → r[j]? = some t → Fz w A (vals i j) t) : Fz w A (.pointer (some ⟨b, f + row * k + off, none⟩)) (.q k rows row off)
  | c (g : Nat) (caps : List T) (cvs : Array Value) (hl : cvs.size = caps.length) (ht : ∀ (i : Nat) (t : T) (v : Value), caps[i]? = some t → cvs[i]? = some v → Fz w A v t) : Fz w A (.func (.func g) #[] cvs) (.c g caps)

theorem Fz.mono {w w' : World} {A A' : Nat → Prop} (hA : ∀ b, A b → b < w.heap.size → A' b ∧ w'.heap[b]? = w.heap[b]?) {v : Value} {t : T} (h : Fz w A v t) : Fz w' A' v t := by
  induction h with
  | v x h1 => exact .v x h1
  | h x h1 => exact .h x h1
  | nil a c o k => exact .nil a c o k
  | s b f c o k rows vals hb1 hb hlc hln hk hc ht ih =>
    obtain ⟨h1, h2⟩ := hA b hb1 hb
    refine .s b f c o k rows vals h1 ?_ hlc hln hk (fun i j hi hj => ?_) ih
    · have := Array.getElem?_eq_some_iff.1 (h2.trans (Array.getElem?_eq_getElem hb)); exact this.1
    · rw [World.cell?_of_block (w := w) (a := ⟨b, f + i * k + j, none⟩) h2]; exact hc i j hi hj
  | q b f k rows row off vals hb1 hb hrr hk hc ht ih =>
    obtain ⟨h1, h2⟩ := hA b hb1 hb
    refine .q b f k rows row off vals h1 ?_ hrr hk (fun i j hi hj => ?_) ih
    · have := Array.getElem?_eq_some_iff.1 (h2.trans (Array.getElem?_eq_getElem hb)); exact this.1
    · rw [World.cell?_of_block (w := w) (a := ⟨b, f + i * k + j, none⟩) h2]; exact hc i j hi hj
  | c g caps cvs hl ht ih => exact .c g caps cvs hl ih

/-- Whose blocks S are alone: an owned tree. -/
inductive Ow (w : World) (A : Nat → Prop) : (Nat → Prop) → Value → T → Prop
  | v (S : Nat → Prop) (x : Value) (h1 : fit x = true) : Ow w A S x (.v x)
  | h (S : Nat → Prop) (x : Value) (h1 : fit x = true) : Ow w A S x .h
  | f (S : Nat → Prop) (x : Value) (k : Nat) (rows : List (List T)) (hf : Fz w A x (.s false k rows)) : Ow w A S x (.s false k rows)
  | nil (S : Nat → Prop) (a : Option Addr) (k : Nat) : Ow w A S (.slice a 0 0) (.s true k [])
  | s (S : Nat → Prop) (b f c k : Nat) (rows : List (List T)) (vals : Nat → Nat → Value) (Sub : Nat → Nat → Nat → Prop) (cs : Array Value) (e : TypeId)
      (hS : S b) (hh : w.heap[b]? = some (.cells cs e (0, 0))) (hc : f + c * k ≤ cs.size) (hl : rows.length ≤ c) (hln : Nat.ble rows.length 9223372036854775807 = true) (hk : ∀ r ∈ rows, r.length = k)
      (hv : ∀ i j, i < rows.length → j < k → cs[f + i * k + j]? = some (vals i j))
      (ht : ∀ (i j : Nat) (r : List T) (t : T), rows[i]? = some r → r[j]? = some t → Ow w A (Sub i j) (vals i j) t)
      (hd : ∀ i j i' j' x, Sub i j x → Sub i' j' x → i = i' ∧ j = j') (hs : ∀ i j x, Sub i j x → S x ∧ x ≠ b) : Ow w A S (.slice (some ⟨b, f, none⟩) rows.length c) (.s true k rows)

theorem Ow.mono {w w' : World} {A A' : Nat → Prop} (hA : ∀ b, A b → b < w.heap.size → A' b ∧ w'.heap[b]? = w.heap[b]?) {S : Nat → Prop} {v : Value} {t : T} (h : Ow w A S v t) :
    ∀ {S' : Nat → Prop}, (∀ b, S b → b < w.heap.size → S' b ∧ w'.heap[b]? = w.heap[b]?) → Ow w' A' S' v t := by
  induction h with
  | v S x h1 => intro S' _; exact .v S' x h1
  | h S x h1 => intro S' _; exact .h S' x h1
  | f S x k rows hf => intro S' _; exact .f S' x k rows (hf.mono hA)
  | nil S a k => intro S' _; exact .nil S' a k
  | s S b f c k rows vals Sub cs e hS hh hc hl hln hk hv ht hd hs ih =>
    intro S' hSS
    have hb : b < w.heap.size := (Array.getElem?_eq_some_iff.1 hh).1
    obtain ⟨h1, h2⟩ := hSS b hS hb
    refine .s S' b f c k rows vals (fun i j x => Sub i j x ∧ x < w.heap.size) cs e h1 (h2.trans hh) hc hl hln hk hv (fun i j r t hr ht' => ih i j r t hr ht' (fun x hx hlt => ⟨⟨hx, hlt⟩, (hSS x (hs i j x hx).1 hlt).2⟩))
      (fun i j i' j' x h h' => hd i j i' j' x h.1 h'.1) (fun i j x h => ⟨(hSS x (hs i j x h.1).1 h.2).1, (hs i j x h.1).2⟩)

/-- A tree may own more. -/
theorem Ow.weak {w : World} {A S S' : Nat → Prop} {v : Value} {t : T} (h : Ow w A S v t) (hS : ∀ b, S b → S' b) : Ow w A S' v t :=
  h.mono (fun _ hb _ => ⟨hb, rfl⟩) (fun b hb _ => ⟨hS b hb, rfl⟩)

theorem frzL_get : ∀ {l : List T} (j : Nat), (frzL l)[j]? = (l[j]?).map frz
  | [], j => by simp [frzL]
  | t :: l, 0 => by simp [frzL]
  | t :: l, j + 1 => by simp [frzL, frzL_get j]
theorem frzLL_get : ∀ {l : List (List T)} (j : Nat), (frzLL l)[j]? = (l[j]?).map frzL
  | [], j => by simp [frzLL]
  | t :: l, 0 => by simp [frzLL]
  | t :: l, j + 1 => by simp [frzLL, frzLL_get j]
theorem frzL_len : ∀ (l : List T), (frzL l).length = l.length
  | [] => rfl
  | t :: l => by simp [frzL, frzL_len l]
theorem frzLL_len : ∀ (l : List (List T)), (frzLL l).length = l.length
  | [] => rfl
  | t :: l => by simp [frzLL, frzLL_len l]
theorem frzLL_map {α : Type} (f : α → List T) (l : List α) : frzLL (l.map f) = l.map fun a => frzL (f a) := by
  induction l with
  | nil => rfl
  | cons a l ih => simp [frzLL, ih]
theorem Fz.frz {w : World} {A : Nat → Prop} {v : Value} {t : T} (h : Fz w A v t) : Fz w A v (frz t) := by
  induction h with
  | v x h1 => exact .v x h1
  | h x h1 => exact .h x h1
  | nil a c o k => exact .nil a c false k
  | s b f c o k rows vals hA hb hlc hln hk hc ht ih =>
    have := Fz.s (w := w) (A := A) b f c false k (frzLL rows) vals hA hb (by rw [frzLL_len]; exact hlc) (by rw [frzLL_len]; exact hln) (fun r hr => ?_) (fun i j hi hj => hc i j (by rw [frzLL_len] at hi; exact hi) hj) (fun i j r t hr ht' => ?_)
    · rw [frzLL_len] at this; exact this
    · obtain ⟨i, hi⟩ := List.getElem?_of_mem hr
      rw [frzLL_get] at hi
      cases hr' : rows[i]? with
      | none => rw [hr'] at hi; cases hi
      | some r' => rw [hr'] at hi; cases hi; rw [frzL_len]; exact hk _ (List.mem_of_getElem? hr')
    · rw [frzLL_get] at hr
      cases hr' : rows[i]? with
      | none => rw [hr'] at hr; cases hr
      | some r' =>
        rw [hr'] at hr; cases hr
        rw [frzL_get] at ht'
        cases ht2 : r'[j]? with
        | none => rw [ht2] at ht'; cases ht'
        | some t2 => rw [ht2] at ht'; cases ht'; exact ih i j r' t2 hr' ht2
  | q b f k rows row off vals hb1 hb hrr hk hc ht ih => exact .q b f k rows row off vals hb1 hb hrr hk hc ht
  | c g caps cvs hl ht ih => exact .c g caps cvs hl ht
theorem Fz.one {w : World} {A : Nat → Prop} {v : Value} {t : T} (h : Fz w A v t) : fit v = true := by cases h <;> first | rfl | assumption
theorem Ow.one {w : World} {A S : Nat → Prop} {v : Value} {t : T} (h : Ow w A S v t) : fit v = true := by
  induction h with
  | v S x h1 => exact h1
  | h S x h1 => exact h1
  | f S x k rows hf => exact hf.one
  | nil S a k => rfl
  | s S b f c k rows vals Sub cs e hS hh hc hl hln => exact hln

end Go.Ev
