/- What an input reads as, as trees. -/
import Derived.Test.YtjpgineaoghoeaaDoorEvRm
import Derived.Below
set_option linter.unusedSectionVars false
set_option linter.unusedVariables false
set_option linter.unusedSimpArgs false
namespace Go.Ev
open Go
open Classical

def packed (P : Program) : List Field → Nat → Nat → Bool
  | [], o, n => o == n
  | f :: fs, o, n => f.offset == o && packed P fs (o + P.cellsOf f.type) n
def okT (P : Program) : Nat → Nat → Bool
  | 0, _ => false
  | n + 1, t => match P.underlying t with
    | some .bool => true
    | some (.int _) => true
    | some .string => true
    | some (.slice e) => okT P n e && Nat.ble 1 (P.cellsOf e)
    | some (.struct fs) => packed P fs.toList 0 (P.cellsOf t) && fs.toList.all fun f => okT P n f.type
    | _ => false

def ShapeL (S : Nat → List T → Prop) : List Field → List T → Prop
  | [], l => l = []
  | f :: fs, l => ∃ l1 l2, l = l1 ++ l2 ∧ S f.type l1 ∧ ShapeL S fs l2
def Shape (P : Program) : Nat → Nat → List T → Prop
  | 0, _, _ => False
  | n + 1, t, l => match P.underlying t with
    | some .bool => ∃ b, l = [.v (.bool b)]
    | some (.int k) => ∃ x, l = [.v (.int k x)] ∧ (Lit.int k x).wf = true
    | some .string => ∃ s, l = [.v (.string s)] ∧ s.size ≤ maxLen
    | some (.slice e) => ∃ rows, l = [.s false (P.cellsOf e) rows] ∧ rows.length ≤ maxLen ∧ ∀ r ∈ rows, r.length = P.cellsOf e ∧ Shape P n e r
    | some (.struct fs) => ShapeL (Shape P n) fs.toList l
    | _ => False

theorem mapM_at {α β : Type} {f : α → Option β} : ∀ {l : List α} {r : List β}, l.mapM f = some r → r.length = l.length ∧ ∀ (i : Nat) x, l[i]? = some x → ∃ y, r[i]? = some y ∧ f x = some y
  | [], r, h => by
    simp at h
    subst h
    exact ⟨rfl, fun i x hi => by simp at hi⟩
  | a :: l, r, h => by
    rw [List.mapM_cons] at h
    cases ha : f a with
    | none => rw [ha] at h; cases h
    | some y =>
      rw [ha] at h
      cases hl : l.mapM f with
      | none => rw [hl] at h; cases h
      | some ys =>
        rw [hl] at h
        cases h
        obtain ⟨q1, q2⟩ := mapM_at hl
        refine ⟨by simp [q1], fun i x hi => ?_⟩
        cases i with
        | zero => simp at hi; subst hi; exact ⟨y, rfl, ha⟩
        | succ i => simpa using q2 i x (by simpa using hi)

variable {H : Type} {enc : TypeId × Value → H} {P : Program} {w : World} {sp : Nat → Bool} {held : Bool}

theorem cells?_at {base : Nat} {x : Addr} {n : Nat} {us : List Value} (h : w.cells? base x n = some us) : us.length = n ∧ ∀ (j : Nat), j < n → ∃ u, us[j]? = some u ∧ w.cell? (x.add j) = some u := by
  unfold World.cells? at h
  split at h
  · obtain ⟨q1, q2⟩ := mapM_at h
    refine ⟨by simpa using q1, fun j hj => ?_⟩
    obtain ⟨y, h1, h2⟩ := q2 j j (by simp [hj])
    exact ⟨y, h1, h2⟩
  · cases h

def InW (w : World) : Nat → Prop := fun b => b < w.heap.size

theorem shape_fields {n : Nat} {F : Nat → List Value → Option (DataW H × List MemPlace)} {cs : List Value} {tot : Nat} (hcs : cs.length = tot) :
    ∀ (fs : List Field) (o : Nat) (xs : List (DataW H × List MemPlace)), packed P fs o tot = true → (fs.mapM fun f => F f.type ((cs.drop f.offset).take (P.cellsOf f.type))) = some xs →
      (∀ f ∈ fs, ∀ cs y, F f.type cs = some y → ∃ l, l.length = cs.length ∧ Shape P n f.type l ∧ ∀ (j : Nat) x u, l[j]? = some x → cs[j]? = some u → Fz w (InW w) u x) →
      o ≤ tot ∧ ∃ l, l.length = tot - o ∧ ShapeL (Shape P n) fs l ∧ ∀ (j : Nat) x u, l[j]? = some x → cs[o + j]? = some u → Fz w (InW w) u x
  | [], o, xs, hp, hm, hF => by
    have : o = tot := by simpa [packed] using hp
    subst this
    exact ⟨Nat.le_refl _, [], by simp, rfl, fun j x u hj => by simp at hj⟩
  | f :: fs, o, xs, hp, hm, hF => by
    simp only [packed, Bool.and_eq_true, beq_iff_eq] at hp
    obtain ⟨rfl, hp⟩ := hp
    rw [List.mapM_cons] at hm
    cases ha : F f.type ((cs.drop f.offset).take (P.cellsOf f.type)) with
    | none => rw [ha] at hm; cases hm
    | some y =>
      rw [ha] at hm
      cases hl : fs.mapM fun f => F f.type ((cs.drop f.offset).take (P.cellsOf f.type)) with
      | none => rw [hl] at hm; cases hm
      | some ys =>
        obtain ⟨hle, l2, q1, q2, q3⟩ := shape_fields hcs fs _ ys hp hl (fun f' hf' => hF f' (by simp [hf']))
        obtain ⟨l1, p1, p2, p3⟩ := hF f (by simp) _ _ ha
        have hlen : l1.length = P.cellsOf f.type := by rw [p1]; simp; omega
        refine ⟨by omega, l1 ++ l2, by simp [hlen, q1]; omega, ⟨l1, l2, rfl, p2, q2⟩, fun j x u hj hu => ?_⟩
        by_cases hlt : j < l1.length
        · rw [List.getElem?_append_left hlt] at hj
          refine p3 j x u hj ?_
          rw [List.getElem?_take, if_pos (by omega), List.getElem?_drop]
          exact hu
        · rw [List.getElem?_append_right (by omega)] at hj
          refine q3 (j - l1.length) x u hj ?_
          rw [← hlen]
          rw [show f.offset + l1.length + (j - l1.length) = f.offset + j by omega]
          exact hu

/-- An input's cells, as trees. -/
theorem shape_of_trod : ∀ (fuel n t : Nat) (cs : List Value) (y : DataW H × List MemPlace), okT P n t = true → DataW.trod enc P w 0 sp held fuel t cs = some y →
    ∃ l, l.length = cs.length ∧ Shape P n t l ∧ ∀ (j : Nat) x u, l[j]? = some x → cs[j]? = some u → Fz w (InW w) u x
  | 0, n, t, cs, y, _, h => by cases h
  | fuel + 1, 0, t, cs, y, ho, h => by cases ho
  | fuel + 1, n + 1, t, cs, y, ho, h => by
    have one : ∀ {v : Value} {x : T}, Fz w (InW w) v x → ∀ (j : Nat) x' u, [x][j]? = some x' → [v][j]? = some u → Fz w (InW w) u x' := by
      intro v x hf j x' u hj hu
      cases j with
      | zero => simp at hj hu; subst hj hu; exact hf
      | succ j => simp at hj
    unfold okT at ho
    unfold Shape
    cases hu : P.underlying t with
    | none => rw [hu] at ho; cases ho
    | some d =>
      rw [hu] at ho
      cases d with
      | bool =>
        rcases cs with _ | ⟨v, _ | ⟨v2, cs⟩⟩
        · simp [DataW.trod, hu] at h
        · cases v <;> simp [DataW.trod, hu] at h
          rename_i b
          exact ⟨[.v (.bool b)], rfl, ⟨b, rfl⟩, one (.v _ rfl)⟩
        · simp [DataW.trod, hu] at h
      | int k =>
        rcases cs with _ | ⟨v, _ | ⟨v2, cs⟩⟩
        · simp [DataW.trod, hu] at h
        · cases v <;> simp [DataW.trod, hu] at h
          rename_i k' x
          obtain ⟨⟨rfl, hw⟩, _⟩ := h
          exact ⟨[.v (.int k' x)], rfl, ⟨x, rfl, hw⟩, one (.v _ (fitI_wf hw))⟩
        · simp [DataW.trod, hu] at h
      | string =>
        rcases cs with _ | ⟨v, _ | ⟨v2, cs⟩⟩
        · simp [DataW.trod, hu] at h
        · cases v <;> simp [DataW.trod, hu] at h
          rename_i s
          have h1 := h.1
          exact ⟨[.v (.string s)], rfl, ⟨s, rfl, h.1⟩, one (.v _ (Nat.ble_eq_true_of_le (by simp only [maxLen] at h1; omega)))⟩
        · simp [DataW.trod, hu] at h
      | slice e =>
        simp only [Bool.and_eq_true, Nat.ble_eq] at ho
        rcases cs with _ | ⟨v, _ | ⟨v2, cs⟩⟩
        · simp [DataW.trod, hu] at h
        · cases v with
          | slice ad len cap =>
            cases ad with
            | none =>
              have : len = 0 ∧ cap = 0 := by
                rcases len with _ | len <;> rcases cap with _ | cap <;> simp [DataW.trod, hu] at h
                exact ⟨rfl, rfl⟩
              obtain ⟨rfl, rfl⟩ := this
              exact ⟨[.s false (P.cellsOf e) []], rfl, ⟨[], rfl, by simp, by simp⟩, one (.nil _ _ _ _)⟩
            | some ad =>
              simp only [DataW.trod, hu] at h
              split at h
              rotate_left
              · cases h
              rename_i hb
              cases hm : (List.range len).mapM fun i => (w.cells? 0 (ad.add (i * P.cellsOf e)) (P.cellsOf e)).bind (DataW.trod enc P w 0 sp held fuel e) with
              | none => rw [hm] at h; cases h
              | some els =>
                obtain ⟨_, hat⟩ := mapM_at hm
                have H : ∀ i, i < len → ∃ us l, w.cells? 0 (ad.add (i * P.cellsOf e)) (P.cellsOf e) = some us ∧ l.length = P.cellsOf e ∧ Shape P n e l ∧ ∀ (j : Nat) x u, l[j]? = some x → us[j]? = some u → Fz w (InW w) u x := by
                  intro i hi
                  obtain ⟨y', _, hy⟩ := hat i i (by simp [hi])
                  cases hc : w.cells? 0 (ad.add (i * P.cellsOf e)) (P.cellsOf e) with
                  | none => rw [hc] at hy; cases hy
                  | some us =>
                    rw [hc] at hy
                    obtain ⟨l, p1, p2, p3⟩ := shape_of_trod fuel n e us y' ho.1 hy
                    exact ⟨us, l, rfl, by rw [p1]; exact (cells?_at hc).1, p2, p3⟩
                by_cases hl : len = 0
                · subst hl
                  exact ⟨[.s false (P.cellsOf e) []], rfl, ⟨[], rfl, by simp, by simp⟩, one (.nil _ _ _ _)⟩
                · let rows : List (List T) := (List.range len).map fun i => if h : i < len then Classical.choose (Classical.choose_spec (H i h)) else []
                  have hrl : rows.length = len := by simp [rows]
                  have hrow : ∀ (i : Nat) r, rows[i]? = some r → i < len ∧ ∃ us, w.cells? 0 (ad.add (i * P.cellsOf e)) (P.cellsOf e) = some us ∧ r.length = P.cellsOf e ∧ Shape P n e r ∧ ∀ (j : Nat) x u, r[j]? = some x → us[j]? = some u → Fz w (InW w) u x := by
                    intro i r hr
                    have hi : i < len := by have := (List.getElem?_eq_some_iff.1 hr).1; omega
                    refine ⟨hi, Classical.choose (H i hi), ?_⟩
                    have : r = Classical.choose (Classical.choose_spec (H i hi)) := by
                      have hr' : ((List.range len).map fun i => if h : i < len then Classical.choose (Classical.choose_spec (H i h)) else [])[i]? = some r := hr
                      rw [List.getElem?_map, List.getElem?_range hi] at hr'
                      simp only [Option.map_some, Option.some.injEq] at hr'
                      rw [dif_pos hi] at hr'
                      exact hr'.symm
                    rw [this]
                    exact Classical.choose_spec (Classical.choose_spec (H i hi))
                  have hspot : ad.spot = none ∧ ad.block < w.heap.size := by
                    obtain ⟨us, l, hc, _⟩ := H 0 (by omega)
                    obtain ⟨_, q⟩ := cells?_at hc
                    obtain ⟨u, _, hq⟩ := q 0 (by omega)
                    have e1 : (ad.add (0 * P.cellsOf e)).add 0 = ad := by simp [Addr.add]
                    rw [e1] at hq
                    refine ⟨?_, block_lt_of_cell hq⟩
                    unfold World.cell? at hq
                    split at hq
                    · split at hq
                      · cases hq
                      · rename_i hs; simpa using hs
                    · cases hq
                  obtain ⟨b, f, sp'⟩ := ad
                  obtain ⟨rfl, hblk⟩ := hspot
                  have hadd : ∀ i j, ((⟨b, f, none⟩ : Addr).add i).add j = ⟨b, f + i + j, none⟩ := fun i j => by rw [addr_add, addr_add]
                  refine ⟨[.s false (P.cellsOf e) rows], rfl, ⟨rows, rfl, by rw [hrl]; omega, fun r hr => ?_⟩, one ?_⟩
                  · obtain ⟨i, hi⟩ := List.getElem?_of_mem hr
                    obtain ⟨_, us, _, q1, q2, _⟩ := hrow i r hi
                    exact ⟨q1, q2⟩
                  · have := Fz.s (w := w) (A := InW w) b f cap false (P.cellsOf e) rows (fun i j => (w.cell? ⟨b, f + i * P.cellsOf e + j, none⟩).getD undef) hblk hblk (by rw [hrl]; exact hb.2.1) (by rw [hrl]; exact Nat.ble_eq_true_of_le (by simp only [maxLen] at hb; omega)) (fun r hr => ?_) (fun i j hi hj => ?_) (fun i j r x hr hx => ?_)
                    · rw [hrl] at this; exact this
                    · obtain ⟨i, hi⟩ := List.getElem?_of_mem hr
                      obtain ⟨_, us, _, q1, q2, _⟩ := hrow i r hi
                      exact q1
                    · rw [hrl] at hi
                      obtain ⟨us, l, hc, _⟩ := H i hi
                      obtain ⟨u, _, hq⟩ := (cells?_at hc).2 j hj
                      rw [hadd] at hq
                      rw [hq]; rfl
                    · obtain ⟨hi, us, hc, q1, _, q3⟩ := hrow i r hr
                      have hj : j < P.cellsOf e := by have := (List.getElem?_eq_some_iff.1 hx).1; omega
                      obtain ⟨u, hus, hq⟩ := (cells?_at hc).2 j hj
                      rw [hadd] at hq
                      rw [hq]
                      exact q3 j x u hx hus
          | _ => simp [DataW.trod, hu] at h
        · simp [DataW.trod, hu] at h
      | struct fs =>
        simp only [Bool.and_eq_true, List.all_eq_true] at ho
        have h' : (if cs.length = P.cellsOf t then (fs.toList.mapM fun f => DataW.trod enc P w 0 sp held fuel f.type ((cs.drop f.offset).take (P.cellsOf f.type))).map fun xs => (DataW.agg (xs.map (·.1)), xs.flatMap (·.2)) else none) = some y := by
          rw [← h]
          simp only [DataW.trod, hu]
        split at h'
        · rename_i hl
          cases hm : fs.toList.mapM fun f => DataW.trod enc P w 0 sp held fuel f.type ((cs.drop f.offset).take (P.cellsOf f.type)) with
          | none => rw [hm] at h'; cases h'
          | some xs =>
            obtain ⟨_, l, q1, q2, q3⟩ := shape_fields (P := P) (n := n) (F := fun t cs => DataW.trod enc P w 0 sp held fuel t cs) hl fs.toList 0 xs ho.1 hm (fun f hf cs y hy => shape_of_trod fuel n f.type cs y (ho.2 f hf) hy)
            exact ⟨l, by rw [q1, hl]; simp, q2, fun j x u hj hu => q3 j x u hj (by simpa using hu)⟩
        · cases h'
      | _ => cases ho
end Go.Ev
