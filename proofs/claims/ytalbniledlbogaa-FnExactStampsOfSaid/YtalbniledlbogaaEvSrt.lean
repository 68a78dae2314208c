/- slices.Sort and slices.Compact at whole numbers, as contracts: out of what the shelf says. -/
import Derived.Test.YtalbniledlbogaaEvS
import Derived.Lib.RowBridge
import Derived.Sort.Grow
set_option linter.unusedSectionVars false
set_option linter.unusedVariables false
set_option linter.unusedSimpArgs false
namespace Go.Ev
open Go Go.Sort
def sortI (l : List Int) : List Int := l.mergeSort fun x y => decide (x ≤ y)
theorem sortI_len (l : List Int) : (sortI l).length = l.length := List.length_mergeSort l
theorem rowI_holds {w : World} {A S : Nat → Prop} {b f c : Nat} {l : List Int} {vals : Nat → Nat → Value} {Sub : Nat → Nat → Nat → Prop} {cs : Array Value} {e : TypeId} (hh : w.heap[b]? = some (.cells cs e (0, 0)))
    (hv : ∀ i j, i < (l.map cInt).length → j < 1 → cs[f + i * 1 + j]? = some (vals i j)) (ht : ∀ (i j : Nat) (r : List T) (t : T), (l.map cInt)[i]? = some r → r[j]? = some t → Ow w A (Sub i j) (vals i j) t) : Holds (Value.int .i64) w b f l.toArray := by
  intro j hj
  have hj : j < l.length := by simpa using hj
  have h1 := hv j 0 (by simpa using hj) (by omega)
  have h2 := ht j 0 (cInt l[j]) (.v (.int .i64 l[j])) (by simp [hj]) rfl
  have h3 : vals j 0 = .int .i64 l[j] := by
    generalize vals j 0 = y at h2
    cases h2; rfl
  rw [h3] at h1
  refine ⟨?_, by simp [World.frozen?, hh]⟩
  simp only [World.cell?, hh, Option.isSome_none, Bool.false_eq_true, if_false]
  rw [show f + j * 1 + 0 = f + j by omega] at h1
  rw [h1]
  simp [hj]
theorem heapI_put {w : World} {b f n : Nat} {os : Array Obj} {cs : Array Value} {e : TypeId} {fr : Nat × Nat} (d : Array Int) (hb : w.heap[b]? = some (.cells cs e fr)) :
    (grow (putRow (Value.int .i64) (Sort.ahead w n) b f d) os).heap[b]? = some (.cells (Go.Sort.putCells (Value.int .i64) f d cs) e fr) := by
  have hg : b < w.heap.size := (Array.getElem?_eq_some_iff.1 hb).1
  rw [heap_grow_old _ _ (by simpa [putRow, mapBlock, Sort.ahead] using hg)]
  simp [putRow, mapBlock, Sort.ahead, Array.getElem?_modify, hb, onCells]
theorem heapI_old {w : World} {b f n : Nat} {os : Array Obj} (d : Array Int) {x : Nat} (hx : x < w.heap.size) (hne : x ≠ b) : (grow (putRow (Value.int .i64) (Sort.ahead w n) b f d) os).heap[x]? = w.heap[x]? := by
  rw [heap_grow_old _ _ (by simpa [putRow, mapBlock, Sort.ahead] using hx)]
  simp [putRow, mapBlock, Sort.ahead, Array.getElem?_modify, Ne.symm hne]
theorem heapI_size {w : World} {b f n : Nat} {os : Array Obj} (d : Array Int) : w.heap.size ≤ (grow (putRow (Value.int .i64) (Sort.ahead w n) b f d) os).heap.size := by
  simp [grow, putRow, mapBlock, Sort.ahead]
theorem putI_at {f : Nat} {d : Array Int} {cs : Array Value} {i : Nat} (hi : i < d.size) (hs : f + d.size ≤ cs.size) : (Go.Sort.putCells (Value.int .i64) f d cs)[f + i]? = some (.int .i64 d[i]) := by
  have h1 : f + i < cs.size := by omega
  simp [Go.Sort.putCells, h1, hi]
theorem ow_rowI {w : World} {A S : Nat → Prop} {b f c : Nat} {l : List Int} {cs : Array Value} {e : TypeId} (hS : S b) (hh : w.heap[b]? = some (.cells cs e (0, 0))) (hc : f + c * 1 ≤ cs.size) (hl : l.length ≤ c) (hln : l.length ≤ 9223372036854775807)
    (hr : ∀ x ∈ l, fit (.int .i64 x) = true) (hv : ∀ i (hi : i < l.length), cs[f + i]? = some (.int .i64 l[i])) : Ow w A S (.slice (some ⟨b, f, none⟩) l.length c) (.s true 1 (l.map cInt)) := by
  have h := Ow.s (w := w) (A := A) S b f c 1 (l.map cInt) (fun i j => .int .i64 (l.getD i 0)) (fun _ _ _ => False) cs e hS hh hc (by simpa using hl) (Nat.ble_eq_true_of_le (by simpa using hln)) (fun r hr => by
      obtain ⟨x, _, rfl⟩ := List.mem_map.1 hr; rfl) (fun i j hi hj => by
      have hi : i < l.length := by simpa using hi
      have : j = 0 := by omega
      subst this
      rw [show f + i * 1 + 0 = f + i by omega, hv i hi]
      simp [hi]) (fun i j r t hr' ht => by
      have hi : i < l.length := by have := (List.getElem?_eq_some_iff.1 hr').1; simpa using this
      rw [List.getElem?_map, List.getElem?_eq_getElem hi] at hr'
      cases hr'
      cases j with
      | zero =>
        cases ht
        have e : l.getD i 0 = l[i] := by simp [hi]
        show Ow w A _ (.int .i64 (l.getD i 0)) (.v (.int .i64 l[i]))
        rw [e]
        exact .v _ _ (hr _ (List.getElem_mem hi))
      | succ j => simp [cInt] at ht) (fun _ _ _ _ _ hh => hh.elim) (fun _ _ _ hh => hh.elim)
  rw [List.length_map] at h
  exact h
theorem rowI_fit {w : World} {A : Nat → Prop} {l : List Int} {vals : Nat → Nat → Value} {Sub : Nat → Nat → Nat → Prop} (ht : ∀ (i j : Nat) (r : List T) (t : T), (l.map cInt)[i]? = some r → r[j]? = some t → Ow w A (Sub i j) (vals i j) t) : ∀ x ∈ l, fit (.int .i64 x) = true := by
  intro x hx
  obtain ⟨i, hi, rfl⟩ := List.getElem_of_mem hx
  have := ht i 0 (cInt l[i]) (.v (.int .i64 l[i])) (by simp [hi]) rfl
  generalize vals i 0 = y at this
  cases this with
  | v _ _ h => exact h
theorem FnOk.sortInts {P : Program} {f : Nat} (hfn : ∃ fn, P.funcs[f]? = some fn ∧ (fn.name == "runtime.NumGoroutine") = false ∧ fn.body.isSome = true)
    (h1 : ∀ (blk off cap : Nat) (zs : List Int) (w : World), Holds (Value.int .i64) w blk off zs.toArray → blk < w.heap.size → zs.length < 4611686018427387904 →
      Calls P f #[.slice (some ⟨blk, off, none⟩) zs.length cap] w fun e w' => e = .returned (.tuple #[]) ∧ ∃ n os, w' = grow (putRow (Value.int .i64) (Sort.ahead w n) blk off (zs.mergeSort fun x y => decide (x ≤ y)).toArray) os)
    (h0 : ∀ (p : Option Addr) (cap : Nat) (w : World), Calls P f #[.slice p 0 cap] w fun e w' => e = .returned (.tuple #[]) ∧ w' = w)
    (l : List Int) (hl : l.length < 4611686018427387904) : FnOk P f [.tup [.one (.s true 1 (l.map cInt))]] ⟨.tup [], [.one (.s true 1 ((sortI l).map cInt))], [], false⟩ := by
  refine ⟨hfn, fun w A lab vals hA hAl hlab hG => ?_⟩
  obtain ⟨v, rfl, hO⟩ : ∃ v, vals = #[v] ∧ Ow w A (fun b => lab b = some 0) v (.s true 1 (l.map cInt)) := by
    rcases vals with ⟨vs⟩
    rcases vs with _ | ⟨v, _ | ⟨u, vs⟩⟩
    · exact hA.elim
    · exact ⟨v, rfl, hA.1⟩
    · exact hA.2.elim
  have hres : ∀ (w' : World) (A' S : Nat → Prop), ResRep w' A' S (.tup []) (.tuple #[]) := fun w' A' S => ⟨#[], fun _ _ => False, rfl, rfl, fun j a u hj => by simp at hj, fun _ _ _ h => h.elim, fun _ _ h => h.elim⟩
  generalize hrw : l.map cInt = rows at hO
  cases hO with
  | nil _ a k =>
    have hl0 : l = [] := List.map_eq_nil_iff.1 hrw
    subst hl0
    refine (h0 a 0 w).mono ?_
    rintro e w' ⟨rfl, rfl⟩
    refine ⟨_, lab, rfl, ⟨rfl, rfl, rfl, Nat.le_refl _, fun b hb hn => ⟨rfl, hn⟩, hlab, fun b hb => rfl⟩, hres _ _ _, ?_⟩
    refine ⟨?_, trivial⟩
    show Ow _ _ _ _ (.s true 1 ((sortI []).map cInt))
    have : sortI [] = [] := List.eq_nil_of_length_eq_zero (by rw [sortI_len]; rfl)
    rw [this]
    exact .nil _ _ _
  | s _ b fo c k _ vs Sub cs e hS hh hc hlc hln hk hv ht hd hs =>
    subst hrw
    have hlt : b < w.heap.size := (Array.getElem?_eq_some_iff.1 hh).1
    have hH : Holds (Value.int .i64) w b fo l.toArray := rowI_holds (S := A) (c := c) hh hv ht
    have hlc' : l.length ≤ c := by simpa using hlc
    have hcall := h1 b fo c l w hH hlt hl
    rw [List.length_map]
    refine hcall.mono ?_
    rintro e' w' ⟨rfl, n, os, rfl⟩
    have hsl : (sortI l).length = l.length := sortI_len l
    refine ⟨_, fun x => if x < w.heap.size then lab x else none, rfl, ⟨rfl, rfl, rfl, heapI_size _, fun x hx hn => ?_, fun x i hx => ?_, fun x hx => ?_⟩, hres _ _ _, ?_⟩
    · have hne : x ≠ b := fun he => by subst he; rw [hn] at hS; cases hS
      exact ⟨heapI_old _ hx hne, by simp [hx, hn]⟩
    · by_cases hb : x < w.heap.size
      · exact Nat.lt_of_lt_of_le hb (heapI_size _)
      · simp [hb] at hx
    · by_cases hne : x = b
      · subst hne
        unfold bsz
        rw [heapI_put _ hh, hh]
        simp [Go.Sort.putCells]
      · exact bsz_of (heapI_old _ hx hne)
    · refine ⟨?_, trivial⟩
      show Ow _ _ _ _ (.s true 1 ((sortI l).map cInt))
      rw [← hsl]
      refine ow_rowI (e := e) (by simp only [hlt, if_true]; exact hS) (heapI_put _ hh) (by simpa [Go.Sort.putCells] using hc) (by rw [hsl]; exact hlc') (by omega) (fun x hx => ?_) (fun i hi => ?_)
      · exact rowI_fit ht x ((List.mergeSort_perm l _).mem_iff.1 hx)
      · have hi' : i < (l.mergeSort fun x y => decide (x ≤ y)).toArray.size := by simpa [sortI] using hi
        have hsz : (l.mergeSort fun x y => decide (x ≤ y)).toArray.size = l.length := by simp
        rw [putI_at hi' (by rw [hsz]; omega)]
        simp [sortI]
theorem FnOk.compactInts {P : Program} {f : Nat} (hfn : ∃ fn, P.funcs[f]? = some fn ∧ (fn.name == "runtime.NumGoroutine") = false ∧ fn.body.isSome = true)
    (h1 : ∀ (blk off cap : Nat) (zs : List Int) (w : World), Holds (Value.int .i64) w blk off zs.toArray → zs.length ≤ 9223372036854775807 → zs.length ≤ cap →
      Calls P f #[.slice (some ⟨blk, off, none⟩) zs.length cap] w fun e w' => e = .returned (.slice (some ⟨blk, off, none⟩) (Lib.compact zs).length cap) ∧ ∃ q, w' = putRow (Value.int .i64) (Sort.ahead w q) blk off (Lib.compact zs ++ List.replicate (zs.length - (Lib.compact zs).length) 0).toArray)
    (h0 : ∀ (a : Option Addr) (cap : Nat) (w : World), Calls P f #[.slice a 0 cap] w fun e w' => e = .returned (.slice a 0 cap) ∧ w' = w)
    (l : List Int) : FnOk P f [.tup [.one (.s true 1 (l.map cInt))]] ⟨.one (.s true 1 ((Lib.compact l).map cInt)), [.one .h], [], false⟩ := by
  refine ⟨hfn, fun w A lab vals hA hAl hlab hG => ?_⟩
  obtain ⟨v, rfl, hO⟩ : ∃ v, vals = #[v] ∧ Ow w A (fun b => lab b = some 0) v (.s true 1 (l.map cInt)) := by
    rcases vals with ⟨vs⟩
    rcases vs with _ | ⟨v, _ | ⟨u, vs⟩⟩
    · exact hA.elim
    · exact ⟨v, rfl, hA.1⟩
    · exact hA.2.elim
  let lab2 : Nat → Option Nat := fun x => if x < w.heap.size then (if lab x = some 0 then some 1 else lab x) else none
  have l2 : ∀ b, b < w.heap.size → lab b = none → lab2 b = none := fun b hb hn => by simp [lab2, hb, hn]
  have l3 : ∀ b i, lab2 b = some i → b < w.heap.size := fun b i hi => by
    by_cases hb : b < w.heap.size
    · exact hb
    · simp [lab2, hb] at hi
  generalize hrw : l.map cInt = rows at hO
  cases hO with
  | nil _ a k =>
    have hl0 : l = [] := List.map_eq_nil_iff.1 hrw
    subst hl0
    refine (h0 a 0 w).mono ?_
    rintro e w' ⟨rfl, rfl⟩
    refine ⟨_, lab2, rfl, ⟨rfl, rfl, rfl, Nat.le_refl _, fun b hb hn => ⟨rfl, l2 b hb hn⟩, l3, fun b hb => rfl⟩, ?_, ?_⟩
    · show Ow _ _ _ _ (.s true 1 ((Lib.compact []).map cInt))
      have : Lib.compact ([] : List Int) = [] := List.eq_nil_of_length_eq_zero (by have := Lib.compact_length_le ([] : List Int); simpa using this)
      rw [this]
      exact .nil _ _ _
    · exact ⟨Ow.h _ _ rfl, trivial⟩
  | s _ b fo c k _ vs Sub cs e hS hh hc hlc hln hk hv ht hd hs =>
    subst hrw
    have hlt : b < w.heap.size := (Array.getElem?_eq_some_iff.1 hh).1
    have hH : Holds (Value.int .i64) w b fo l.toArray := rowI_holds (S := A) (c := c) hh hv ht
    have hlc' : l.length ≤ c := by simpa using hlc
    have hl9 : l.length ≤ 9223372036854775807 := by have := Nat.le_of_ble_eq_true hln; simpa using this
    have hle := Lib.compact_length_le l
    rw [List.length_map]
    refine (h1 b fo c l w hH hl9 hlc').mono ?_
    rintro e' w' ⟨rfl, q, rfl⟩
    have hgr : ∀ w : World, grow w #[] = w := grow_empty
    have hsz : (Lib.compact l ++ List.replicate (l.length - (Lib.compact l).length) 0).toArray.size = l.length := by simp; omega
    rw [← hgr (putRow (Value.int .i64) (Sort.ahead w q) b fo _)]
    refine ⟨_, lab2, rfl, ⟨rfl, rfl, rfl, heapI_size _, fun x hx hn => ?_, fun x i hx => ?_, fun x hx => ?_⟩, ?_, ?_⟩
    · have hne : x ≠ b := fun he => by subst he; rw [hn] at hS; cases hS
      exact ⟨heapI_old _ hx hne, l2 x hx hn⟩
    · exact Nat.lt_of_lt_of_le (l3 x i hx) (heapI_size _)
    · by_cases hne : x = b
      · subst hne
        unfold bsz
        rw [heapI_put _ hh, hh]
        simp [Go.Sort.putCells]
      · exact bsz_of (heapI_old _ hx hne)
    · show Ow _ _ _ _ (.s true 1 ((Lib.compact l).map cInt))
      have hSb : lab2 b = some 1 := by
        have hS : lab b = some 0 := hS
        simp [lab2, hlt, hS]
      refine ow_rowI (e := e) hSb (heapI_put _ hh) (by simpa [Go.Sort.putCells] using hc) (by omega) (by omega) (fun x hx => ?_) (fun i hi => ?_)
      · have hx2 : x ∈ l := by
          unfold Lib.compact Lib.compactUpTo at hx
          obtain ⟨j, hj, rfl⟩ := List.mem_map.1 hx
          have hj := List.mem_range.1 (List.mem_filter.1 hj).1
          simp [hj]
        exact rowI_fit ht x hx2
      · have hi' : i < (Lib.compact l ++ List.replicate (l.length - (Lib.compact l).length) 0).toArray.size := by rw [hsz]; omega
        rw [putI_at hi' (by rw [hsz]; omega)]
        simp [List.getElem_append, hi]
    · refine ⟨Ow.h _ _ ?_, trivial⟩
      show Nat.ble l.length _ = true
      exact Nat.ble_eq_true_of_le hl9
end Go.Ev
