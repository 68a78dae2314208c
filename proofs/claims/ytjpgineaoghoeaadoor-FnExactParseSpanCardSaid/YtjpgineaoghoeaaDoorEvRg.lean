/- A contract out of a walk, of a function that turns the slices of a struct in place. -/
import Derived.Test.YtjpgineaoghoeaaDoorEvRm
set_option linter.unusedSectionVars false
set_option linter.unusedVariables false
set_option linter.unusedSimpArgs false
namespace Go.Ev
open Go
open Classical
variable {E : Env} {w w' w0 : World} {A0 : Fix} {g g' : Gh} {st st' : St} {N : Nat} {pv : List Value} {a : Act}

/-- The struct whose slices are turned in place. -/
def muOfG : List AV → Option (List T)
  | [] => none
  | .tup [.agg ts] :: l => bif l.all AV.arg then some ts else none
  | a :: l => bif a.arg then muOfG l else none
def St.entryG (ts : List T) (args : List AV) : St := ⟨entryTm 0 (entryMs (.agg (cellsN 1 ts)) args), none :: obsN ts, cellsN 1 ts⟩
def endG2 (out : Out) : Option (List T × St) → Prop
  | some (ts', _) => out.outs = [.agg ts'] ∧ out.al = false
  | none => False
def endG1 (out : Out) : Option (AV × St) → Prop
  | some (a, st2) => out.res.Own ∧ a = out.res ∧ endG2 out (extCells st2 st2.pr)
  | none => False
def endKG (out : Out) (st : St) (a : AV) : Prop := endG1 out (extAV st a)
/-- What a function hands back, and what its argument holds then. -/
def endG (E : Env) (rs : List ResultVar) (out : Out) : Exit → St → Prop
  | .normal, st => resA E st (endKG out st) rs
  | .ret, st => resA E st (endKG out st) rs
  | _, _ => False
theorem endKG_plain {out : Out} {x : AV} (h : endKG out st x) : Plain x := by
  cases x with
  | tup l =>
    have h : endG1 out ((extAVs st l).map fun (l, st) => (.tup l, st)) := h
    cases he : extAVs st l with
    | none => rw [he] at h; exact h.elim
    | some y => exact extAVs_plain he
  | _ => exact trivial

theorem argsMuG {A : Nat → Prop} {lab : Nat → Option Nat} {ts : List T} : ∀ {l : List AV} {vs : List Value}, ArgsRep w A lab 0 l vs → muOfG l = some ts → vs.length = l.length ∧ ∃ j v0, l[j]? = some (.tup [.agg ts]) ∧ vs[j]? = some v0 ∧ ResRep1 w A (fun b => lab b = some 0) (.agg ts) v0 ∧
      (∀ (i : Nat) x u, l[i]? = some x → vs[i]? = some u → i = j ∨ (RoRep w A x u ∧ x.arg = true)) ∧
      ∀ {w' : World} {A' : Nat → Prop} {lab' : Nat → Option Nat} {o : List T} {kps : List (List Nat)}, ResRep1 w' A' (fun b => lab' b = some 0) (.agg o) v0 → OutsRep w w' A' lab' 0 l vs [.agg o] kps
  | [], vs, h, hm => by simp [muOfG] at hm
  | x :: l, [], h, hm => by
    exfalso
    cases x with
    | one t => cases t <;> exact h.elim
    | tup m => rcases m with _ | ⟨x, _ | ⟨y, m⟩⟩ <;> exact h.elim
    | _ => exact h.elim
  | x :: l, v :: vs, h, hm => by
    unfold muOfG at hm
    split at hm
    · simp at *
    · rename_i ts' l0 heq
      injection heq with e1 e2
      subst e1
      subst e2
      cases hc : l.all AV.arg with
      | false => rw [hc] at hm; cases hm
      | true =>
        rw [hc] at hm
        simp only [cond_true, Option.some.injEq] at hm
        subst hm
        obtain ⟨q1, q2⟩ := ArgsRep.ro h.2 hc
        refine ⟨by simp [q1], 0, v, rfl, rfl, h.1, fun i x u hi hu => ?_, fun {w' A' lab' o kps} ho => ⟨ho, outsRep_ro hc q1⟩⟩
        · cases i with
          | zero => exact .inl rfl
          | succ i => exact .inr ⟨q2 i x u (by simpa using hi) (by simpa using hu), (List.all_eq_true.1 hc) x (List.mem_of_getElem? (by simpa using hi))⟩
    · rename_i x0 l0 hne heq
      injection heq with e1 e2
      subst e1
      subst e2
      cases hc : x.arg with
      | false => rw [hc] at hm; cases hm
      | true =>
        rw [hc] at hm
        simp only [cond_true] at hm
        have h' : RoRep w A x v ∧ ArgsRep w A lab 0 l vs := by
          cases x with
          | one t =>
            cases t with
            | b row => simp [AV.arg, T.arg, T.arg0] at hc
            | _ => exact h
          | tup m => simp [AV.arg] at hc
          | _ => exact h
        obtain ⟨q1, j, v0, q2, q3, q4, q5, q6⟩ := argsMuG h'.2 hm
        refine ⟨by simp [q1], j + 1, v0, by simpa using q2, by simpa using q3, q4, fun i y u hi hu => ?_, fun {w' A' lab' o kps} ho => ?_⟩
        · cases i with
          | zero => simp at hi hu; subst hi hu; exact .inr ⟨h'.1, hc⟩
          | succ i => exact (q5 i y u (by simpa using hi) (by simpa using hu)).imp (fun h => by omega) id
        · have := q6 (kps := kps) ho
          cases x with
          | one t =>
            cases t with
            | b row => simp [AV.arg, T.arg, T.arg0] at hc
            | _ => exact this
          | tup m => simp [AV.arg] at hc
          | _ => exact this

/-- A walk gives a contract of a function that turns one of its arguments in place. -/
theorem FnOk.introG (hE : EnvOk E) (hm : E.P.follows .mixedOrders = true) {f : Nat} {fn : Func} {c : Code} {args : List AV} {out : Out} {ts : List T} (hf : E.P.funcs[f]? = some fn) (hb : fn.body = some c)
    (hc : fnOk fn c args.length = true) (hargs : muOfG args = some ts) (h : wpA E (FnOk E.P) c (endG E fn.results.toList out) (St.entryG ts args)) : FnOk E.P f args out := by
  simp only [fnOk, Bool.and_eq_true, Bool.not_eq_true', Nat.ble_eq] at hc
  refine ⟨⟨fn, hf, hc.1.1, by rw [hb]; rfl⟩, fun w A lab vals hA hAl hlab hG => ?_⟩
  obtain ⟨hlen, j, v0, hj, hv0, hO, hro, hback⟩ := argsMuG hA hargs
  let g0 : Gh := ⟨fun _ => 0, fun _ => 0, fun _ => 0, fun b => if lab b = some 0 then some 0 else none, fun b => b < w.heap.size ∧ ¬ A b ∧ lab b = none⟩
  have hA0 : ∀ b, A b → g0.A b := fun b hb => ⟨by show (if lab b = some 0 then some 0 else none) = none; rw [if_neg]; rw [(hAl b hb).2]; exact (fun h => by cases h), fun hh => hh.2.1 hb⟩
  have hsz : vals.size = args.length := by simpa using hlen
  let st0 : St := ⟨[], [none], []⟩
  let a0 : Act := { tmps := vals ++ Array.replicate (fn.ntmps - vals.size) undef, defers := [] }
  have hst0 : RepSt w g0 st0 fn.ntmps [] a0 := by
    refine ⟨by simp [a0]; omega, rfl, fun k => trivial, fun id ob ho => ?_, fun b i hb => ?_, rfl, fun i t u hi => by simp [st0] at hi⟩
    · unfold St.obj at ho
      cases id with
      | zero => simp [st0] at ho
      | succ i => simp [st0] at ho
    · have hb : (if lab b = some 0 then some 0 else none) = some i := hb
      split at hb
      · rename_i h0
        cases hb
        exact ⟨hlab b 0 h0, by simp [st0]⟩
      · cases hb
  obtain ⟨cs, rfl, hcs, Sub0, hO, hd0, hs0⟩ := hO
  obtain ⟨g1, hIn, hTl, hT⟩ := inCells_ok (cs := cs.toList) (Sub := Sub0) hst0 hA0 (fun j x hx => ⟨0, if_pos (hs0 j x hx), rfl⟩) (fun j t u hj hu => hO j t u hj (by simpa using hu)) hd0 (by simpa using hcs) (inCells_N ts st0)
  simp only [st0, List.length_cons, List.length_nil, Nat.zero_add, List.cons_append, List.nil_append] at hIn hTl hT
  have hA1 : ∀ b, A b → g1.A b := fun b hb => hIn.A (hA0 b hb)
  have hKp : Keeps w g1 ⟨[], none :: obsN ts, []⟩ w g1 (St.entryG ts args) :=
    ⟨fun _ h _ => ⟨h, rfl⟩, Nat.le_refl _, fun _ ob' _ h => ⟨ob', h, rfl, rfl, rfl⟩, fun i ob' _ h ob h' => by
      have e : St.obj ⟨[], none :: obsN ts, []⟩ i = some ob' := h
      rw [h'] at e; cases e; exact ⟨Nat.le_refl _, fun _ _ _ => rfl⟩, fun _ _ _ _ => ⟨rfl, rfl, rfl, fun h => h⟩⟩
  have hT1 : ∀ (j : Nat) t u, (cellsN 1 ts)[j]? = some t → cs[j]? = some u → RepT w g1 (St.entryG ts args) t u := fun j t u hj hu => (hT j t u hj (by simpa using hu)).keeps hKp
  refine calls_of_wp hf hb (wpA_ok (w0 := w) (A0 := ⟨fun b => lab b = none, g0.X⟩) (N := fn.ntmps) (pv := cs.toList) (g := g1) hE hm (hG.mono fun b hb hlt => ⟨⟨(hAl b hb).2, fun hh => hh.2.1 hb⟩, hlt, rfl⟩) (fun _ _ _ h => h) c hc.1.2 ?_ ?_ ?_ h)
  · -- the end
    have fin : ∀ st' a' w' g', resA E st' (endKG out st') fn.results.toList → RepSt w' g' st' fn.ntmps cs.toList a' → Fr w ⟨fun b => lab b = none, g0.X⟩ w' g' →
        a'.defers = [] ∧ ∃ v, (results fn a'.tmps).run E.P w' = .ok v w' ∧ ∃ v' lab', Ending.returned v = .returned v' ∧ Aft w lab w' lab' ∧ ResRep w' (out.A w.heap.size A lab lab') (fun b => lab' b = some args.length) out.res v' ∧ OutsRep w w' (fun b => A b ∨ NewF w.heap.size lab lab' b) lab' 0 args vals.toList out.outs out.keep := by
      intro st' a' w' g' hK hR hF
      obtain ⟨x, v, hx, hrun, hrep⟩ := resA_ok hE hR (fun x hx => endKG_plain hx) hK
      unfold endKG endG1 at hx
      split at hx
      rotate_left
      · exact hx.elim
      rename_i x' st2 he
      obtain ⟨hown, rfl, hx⟩ := hx
      unfold endG2 at hx
      split at hx
      rotate_left
      · exact hx.elim
      rename_i ts' st3 he2
      obtain ⟨hout, hal⟩ := hx
      let lab' : Nat → Option Nat := fun b => match g'.lab b with
        | none => none
        | some i => match st2.obj i with
          | none => some args.length
          | some _ => some 0
      have ln : ∀ b, g'.lab b = none → lab' b = none := fun b hb => by simp only [lab', hb]
      have ln' : ∀ b, lab' b = none → g'.lab b = none := fun b hb => by
        cases hl : g'.lab b with
        | none => rfl
        | some i =>
          simp only [lab', hl] at hb
          cases ho : st2.obj i <;> rw [ho] at hb <;> cases hb
      obtain ⟨k1, S1, hR1, hS1⟩ := extAV_ok2 hR (A' := out.A w.heap.size A lab lab') he hrep (.inr hown)
      have hR2 := hR.kills k1
      have hpr : cs.toList.length = st2.pr.length := by rw [k1.pr]; exact hR.pr.1
      obtain ⟨k2, hl2, Sub, hO2, hd2, hS2⟩ := extCells_ok (us := cs.toList) hR2 he2 hpr (fun i t u hi hu => hR2.pr.2 i t u hi hu)
      refine ⟨hR.defers, v, hrun, v, lab', rfl, ?_, hR1.weak (fun b hb => ?_), ?_⟩
      · refine ⟨hF.os, hF.tape, hF.output, hF.size, fun b hb hn => ⟨(hF.blk b hb hn).1, ln b (hF.blk b hb hn).2⟩, fun b i hi => ?_, hF.bs⟩
        cases hl : g'.lab b with
        | none => rw [ln b hl] at hi; cases hi
        | some i => exact (hR.lab b i hl).1
      · obtain ⟨i, h1, _, h3⟩ := hS1 b hb
        simp only [lab', h1, h3]
      · rw [hout]
        refine hback ⟨cs, rfl, ?_, Sub, fun j t u hj hu => ((hO2 j t u hj (by simpa using hu)).mono (fun b hb hlt => ⟨?_, rfl⟩) (fun b hb hlt => ⟨hb, rfl⟩)), hd2, fun j b hb => ?_⟩
        · rw [hl2, ← hpr]; simp
        · by_cases hlt : b < w.heap.size
          · have := hb.2
            rw [hF.x.1] at this
            by_cases hA : A b
            · exact .inl hA
            · exact .inr ⟨.inr (fun hn => this ⟨hlt, hA, hn⟩), ln b hb.1⟩
          · exact .inr ⟨.inl (by omega), ln b hb.1⟩
        · obtain ⟨i, h1, ⟨ob, h2⟩, _⟩ := hS2 j b hb
          simp only [lab', h1, h2]
    intro e st' a' w' g' hq hR hF
    cases e with
    | normal => exact fin st' a' w' g' hq hR hF
    | ret => exact fin st' a' w' g' hq hR hF
    | _ => exact hq.elim
  · refine ⟨hIn.rep.size, rfl, fun i => ?_, fun id ob ho => ?_, hIn.rep.lab, (by show cs.toList.length = (cellsN 1 ts).length; rw [hTl]; simpa using hcs), fun i t u hi hu => ?_⟩
    · show RepAV w g1 _ (look (entryTm 0 (entryMs (.agg (cellsN 1 ts)) args)) i) _
      rcases look_entry (entryMs (.agg (cellsN 1 ts)) args) 0 i with h1 | ⟨x, _, h2, h3⟩
      · rw [h1]; trivial
      · rw [h3]
        rw [Nat.sub_zero, entryMs_get] at h2
        cases hx : args[i]? with
        | none => rw [hx] at h2; cases h2
        | some y =>
          rw [hx] at h2
          simp only [Option.map_some, Option.some.injEq] at h2
          have hk : i < vals.size := by have := (List.getElem?_eq_some_iff.1 hx).1; omega
          have hv : (vals ++ Array.replicate (fn.ntmps - vals.size) undef).getD i undef = vals[i] := by
            simp [Array.getD, Array.getElem_append, hk]
            intro hge
            omega
          rw [hv]
          rcases hro i y vals[i] hx (by simp [hk]) with rfl | ⟨h5, h6⟩
          · rw [hj] at hx
            cases hx
            have : vals[i] = .agg cs := by
              have e1 : vals.toList[i]? = some vals[i] := by simp [hk]
              rw [hv0] at e1; exact (Option.some.inj e1).symm
            rw [this, ← h2]
            exact ⟨cs, rfl, by rw [hTl]; exact hcs, hT1⟩
          · have : entryA (.agg (cellsN 1 ts)) y = y := by
              cases y with
              | tup m => simp [AV.arg] at h6
              | _ => rfl
            rw [this] at h2
            rw [← h2]
            exact roRep_arg hA1 h5 h6
    · exact (hIn.rep.ob id ob ho).keeps hKp ⟨rfl, rfl, rfl⟩ (fun x hx _ => ⟨hx, rfl⟩) (fun h => h)
    · exact hT1 i t u hi (by simpa using hu)
  · exact ⟨rfl, rfl, rfl, Nat.le_refl _, ⟨hIn.X, fun b hb => ⟨hb.1, hb.2.2⟩⟩, fun b hb hn => ⟨rfl, hIn.none b (by show (if lab b = some 0 then some 0 else none) = none; rw [if_neg]; rw [hn]; exact (fun h => by cases h))⟩, fun b hb => rfl⟩
end Go.Ev
