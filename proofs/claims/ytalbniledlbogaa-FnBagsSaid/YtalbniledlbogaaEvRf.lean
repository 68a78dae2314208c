/- What a function gives that turns a variable by its address: frozen. -/
import Derived.Test.YtalbniledlbogaaEvRb
import Derived.Test.YtalbniledlbogaaEvZ
set_option linter.unusedSectionVars false
set_option linter.unusedVariables false
set_option linter.unusedSimpArgs false
namespace Go.Ev
open Go
open Classical
variable {E : Env} {w w' w0 : World} {A0 : Fix} {g g' : Gh} {st st' : St} {N : Nat} {pv : List Value} {a : Act}
theorem argsMuB2 {A : Nat → Prop} {lab : Nat → Option Nat} {row : List T} : ∀ {l : List AV} {vs : List Value} {j : Nat} {v0 : Value}, ArgsRep w A lab 0 l vs → muOfB l = some row → l[j]? = some (.tup [.one (.b row)]) → vs[j]? = some v0 →
      (∀ {lab1 : Nat → Option Nat}, OwBox w A (fun b => lab1 b = some 0) row v0 → ArgsRep w A lab1 0 l vs) ∧
      ∀ {w' : World} {A' : Nat → Prop} {lab' : Nat → Option Nat} {o : List T} {kps : List (List Nat)}, OutsRep w w' A' lab' 0 l vs [.one (.b o)] kps → OwBox w' A' (fun b => lab' b = some 0) o v0
  | [], vs, j, v0, h, hm, hj, hv => by simp [muOfB] at hm
  | x :: l, [], j, v0, h, hm, hj, hv => by simp at hv
  | x :: l, v :: vs, j, v0, h, hm, hj, hv => by
    unfold muOfB at hm
    split at hm
    · simp at *
    · rename_i row' l0 heq
      injection heq with e1 e2
      subst e1
      subst e2
      cases hc : l.all AV.arg && row'.all T.flatB with
      | false => rw [hc] at hm; cases hm
      | true =>
        rw [hc] at hm
        simp only [cond_true, Option.some.injEq] at hm
        subst hm
        simp only [Bool.and_eq_true] at hc
        cases j with
        | zero =>
          simp at hv
          subst hv
          exact ⟨fun h1 => ⟨h1, h.2.lab hc.1⟩, fun ho => ho.1⟩
        | succ j =>
          have := (List.all_eq_true.1 hc.1) _ (List.mem_of_getElem? (by simpa using hj))
          simp [AV.arg] at this
    · rename_i x0 l0 hne heq
      injection heq with e1 e2
      subst e1
      subst e2
      cases hc : x.arg with
      | false => rw [hc] at hm; cases hm
      | true =>
        rw [hc] at hm
        simp only [cond_true] at hm
        cases j with
        | zero =>
          simp at hj
          subst hj
          simp [AV.arg] at hc
        | succ j =>
          have h' : RoRep w A x v ∧ ArgsRep w A lab 0 l vs := by
            cases x with
            | one t =>
              cases t with
              | b row => simp [AV.arg, T.arg, T.arg0] at hc
              | _ => exact h
            | tup m => simp [AV.arg] at hc
            | _ => exact h
          obtain ⟨q1, q2⟩ := argsMuB2 (j := j) h'.2 hm (by simpa using hj) (by simpa using hv)
          refine ⟨fun h1 => ?_, fun ho => ?_⟩
          · have q := q1 h1
            cases x with
            | one t =>
              cases t with
              | b row => simp [AV.arg, T.arg, T.arg0] at hc
              | _ => exact ⟨h'.1, q⟩
            | tup m => simp [AV.arg] at hc
            | _ => exact ⟨h'.1, q⟩
          · cases x with
            | one t =>
              cases t with
              | b row => simp [AV.arg, T.arg, T.arg0] at hc
              | _ => exact q2 ho
            | tup m => simp [AV.arg] at hc
            | _ => exact q2 ho

theorem flatOw2 {A A' S S' : Nat → Prop} (hA : ∀ b, A b → A' b) {t : T} {u : Value} (hf : t.flatB = true) (h : Ow w A S u t) : Ow w A' S' u t := by
  cases h with
  | v _ _ h1 => exact .v _ _ h1
  | f _ _ _ _ hz => exact .f _ _ _ _ (hz.mono fun b hb _ => ⟨hA b hb, rfl⟩)
  | _ => cases hf
theorem FnOk.freezeB {P : Program} {f : Nat} {args : List AV} {row o : List T} {r r' : AV} (hargs : muOfB args = some row) (ho : o.all T.flatB = true) (h : FnOk P f args ⟨r, [.one (.b o)], [], false⟩)
    (hr : ∀ (w : World) (A A' S S' : Nat → Prop) (v : Value), (∀ b, A b → A' b) → (∀ b, S b → A' b) → ResRep w A S r v → ResRep w A' S' r' v) : FnOk P f args ⟨r', [.one (.b o)], [], false⟩ := by
  refine ⟨h.fn, fun w A lab vals hA hAl hl hG => ?_⟩
  obtain ⟨hflat, hlen, j, v0, hj, hv0, hO, hro, hback⟩ := argsMuB hA hargs
  obtain ⟨p1, p2⟩ := argsMuB2 hA hargs hj hv0
  obtain ⟨b0, cs, e0, rfl, hh0, hS0, hsz0, Sub0, hO0, hd0, hs0⟩ := hO
  have hb0 : b0 < w.heap.size := hl b0 0 hS0
  have hn : args.length ≠ 0 := by have := (List.getElem?_eq_some_iff.1 hj).1; omega
  obtain ⟨lab1, hl1, hl2⟩ : ∃ lab1 : Nat → Option Nat, lab1 b0 = some 0 ∧ ∀ b, b ≠ b0 → lab1 b = none := ⟨fun b => if b = b0 then some 0 else none, by simp, fun b hb => by simp [hb]⟩
  have hA1 : ArgsRep w A lab1 0 args vals.toList := p1 ⟨b0, cs, e0, rfl, hh0, hl1, hsz0, fun _ _ => False, fun j t u hj hu => flatOw2 (fun b h => h) ((List.all_eq_true.1 hflat) t (List.mem_of_getElem? hj)) (hO0 j t u hj hu), fun _ _ _ h => h.elim, fun _ _ h => h.elim⟩
  have hlab1 : ∀ b i, lab1 b = some i → b = b0 ∧ i = 0 := fun b i hb => by
    by_cases he : b = b0
    · subst he; rw [hl1] at hb; cases hb; exact ⟨rfl, rfl⟩
    · rw [hl2 b he] at hb; cases hb
  refine (h.run w A lab1 vals hA1 (fun b hb => ⟨(hAl b hb).1, hl2 b (fun he => by subst he; have := (hAl b hb).2; rw [hS0] at this; cases this)⟩) (fun b i hb => by rw [(hlab1 b i hb).1]; exact hb0) hG).mono ?_
  rintro e w' ⟨v, lab', rfl, hAft, hRes, hOut⟩
  have hBox := p2 hOut
  obtain ⟨b1, cs', e', hp, hh, hlb, hsz', Sub', hO', hd', hs'⟩ := hBox
  injection hp with hp; injection hp with hp; injection hp with hp _
  subst hp
  have old : ∀ b, b < w.heap.size → b ≠ b0 → lab' b = none := fun b hb hne => (hAft.blk b hb (hl2 b hne)).2
  let lab2 : Nat → Option Nat := fun b => if b < w.heap.size then (if b = b0 then some 0 else lab b) else if lab' b = some args.length then none else lab' b
  have newN : ∀ b, w.heap.size ≤ b → (lab' b = none ∨ lab' b = some args.length) → lab2 b = none := fun b hb hh => by
    show (if b < w.heap.size then _ else _) = none
    rw [if_neg (by omega)]
    rcases hh with hh | hh
    · rw [if_neg (by rw [hh]; simp)]; exact hh
    · rw [if_pos hh]
  have atB : lab2 b0 = some 0 := by
    show (if b0 < w.heap.size then _ else _) = some 0
    rw [if_pos hb0, if_pos rfl]
  refine ⟨v, lab2, rfl, ⟨hAft.os, hAft.tape, hAft.output, hAft.size, fun b hb hnone => ?_, fun b i hb => ?_, hAft.bs⟩, ?_, ?_⟩
  · have hne : b ≠ b0 := fun he => by subst he; rw [hS0] at hnone; cases hnone
    refine ⟨(hAft.blk b hb (hl2 b hne)).1, ?_⟩
    show (if b < w.heap.size then _ else _) = none
    rw [if_pos hb, if_neg hne]; exact hnone
  · by_cases hlt : b < w.heap.size
    · have := hAft.size; omega
    · have hb : (if b < w.heap.size then (if b = b0 then some 0 else lab b) else if lab' b = some args.length then none else lab' b) = some i := hb
      rw [if_neg hlt] at hb
      split at hb
      · cases hb
      · exact hAft.lt b i hb
  · refine hr w' _ _ _ _ v (fun b hb => ?_) (fun b hb => ?_) hRes
    · rcases hb with ⟨hx, _⟩ | ⟨h1, h2⟩
      · cases hx
      · exact .inr ⟨h1, newN b h1 (.inl h2)⟩
    · have hge : w.heap.size ≤ b := by
        rcases Nat.lt_or_ge b w.heap.size with hlt | hge
        · exfalso
          by_cases he : b = b0
          · subst he; rw [hlb] at hb; injection hb with hb; exact hn hb.symm
          · rw [old b hlt he] at hb; cases hb
        · exact hge
      exact .inr ⟨hge, newN b hge (.inr hb)⟩
  · refine hback ⟨b0, cs', e', rfl, hh, atB, hsz', fun _ _ => False, fun j t u hj hu => ?_, fun _ _ _ h => h.elim, fun _ _ h => h.elim⟩
    refine flatOw2 (fun b hb => ?_) ((List.all_eq_true.1 ho) t (List.mem_of_getElem? hj)) (hO' j t u hj hu)
    rcases hb with hb | ⟨h1, h2⟩
    · exact .inl hb
    · exact .inr ⟨h1, newN b h1 (.inl h2)⟩
theorem FnOk.frzAB {P : Program} {f : Nat} {args : List AV} {row o : List T} {l l' : List T} (hargs : muOfB args = some row) (ho : o.all T.flatB = true) (e : frzL l = l') (h : FnOk P f args ⟨.agg l, [.one (.b o)], [], false⟩) : FnOk P f args ⟨.agg l', [.one (.b o)], [], false⟩ := by
  subst e
  refine h.freezeB hargs ho fun w A A' S S' v hA hS hR => ?_
  obtain ⟨cs, rfl, hl, Sub, h1, h2, h3⟩ := (show ∃ cs, v = .agg cs ∧ OwC w A S l cs from hR)
  refine ⟨cs, rfl, ?_, fun _ _ => False, fun j t u hj hu => ?_, fun _ _ _ h => h.elim, fun _ _ h => h.elim⟩
  · rw [hl, frzL_len]
  · obtain ⟨t0, ht0, rfl⟩ : ∃ t0, l[j]? = some t0 ∧ t = frz t0 := by
      rw [show frzL l = l.map frz from frzL_map' l, List.getElem?_map] at hj
      cases h0 : l[j]? with
      | none => rw [h0] at hj; cases hj
      | some t0 => rw [h0] at hj; cases hj; exact ⟨t0, rfl, rfl⟩
    exact Ow.frz hA (fun b hb => hS b (h3 j b hb)) (h1 j t0 u ht0 hu)
theorem FnOk.frz1B {P : Program} {f : Nat} {args : List AV} {row o : List T} {k : Nat} {rows rows' : List (List T)} (hargs : muOfB args = some row) (ho : o.all T.flatB = true) (e : frzLL rows = rows') (h : FnOk P f args ⟨.one (.s true k rows), [.one (.b o)], [], false⟩) : FnOk P f args ⟨.one (.s false k rows'), [.one (.b o)], [], false⟩ := by
  subst e
  exact h.freezeB hargs ho fun w A A' S S' v hA hS hR => Ow.frz (t := .s true k rows) hA hS hR
theorem FnOk.frz2 {P : Program} {f : Nat} {args : List AV} {k1 k2 : Nat} {r1 r1' r2 r2' : List (List T)} {al : Bool} (hargs : args.all AV.arg = true) (e1 : frzLL r1 = r1') (e2 : frzLL r2 = r2') (h : FnOk P f args ⟨.tup [.one (.s true k1 r1), .one (.s true k2 r2)], [], [], al⟩) : FnOk P f args ⟨.tup [.one (.s false k1 r1'), .one (.s false k2 r2')], [], [], al⟩ := by
  subst e1
  subst e2
  refine h.freeze hargs fun w A A' S S' v hA hS hR => ?_
  obtain ⟨vs, Sub, rfl, hl, h1, h2, h3⟩ := hR
  refine ⟨vs, fun _ _ => False, rfl, hl, fun j x u hj hu => ?_, fun _ _ _ h => h.elim, fun _ _ h => h.elim⟩
  rcases j with _ | _ | j
  · simp at hj
    subst hj
    exact Ow.frz (t := .s true k1 r1) hA (fun b hb => hS b (h3 0 b hb)) (h1 0 (.one (.s true k1 r1)) u rfl hu)
  · simp at hj
    subst hj
    exact Ow.frz (t := .s true k2 r2) hA (fun b hb => hS b (h3 1 b hb)) (h1 1 (.one (.s true k2 r2)) u rfl hu)
  · simp at hj
end Go.Ev
