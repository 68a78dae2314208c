/- A contract out of a walk, of a function that turns a variable that it was handed by its address. -/
import Derived.Test.YtalbniledlbogaaEvRg
set_option linter.unusedSectionVars false
set_option linter.unusedVariables false
set_option linter.unusedSimpArgs false
namespace Go.Ev
open Go
open Classical
variable {E : Env} {w w' w0 : World} {A0 : Fix} {g g' : Gh} {st st' : St} {N : Nat} {pv : List Value} {a : Act}

/-- The variable that is handed on by its address. -/
def muOfB : List AV → Option (List T)
  | [] => none
  | .tup [.one (.b row)] :: l => bif l.all AV.arg && row.all T.flatB then some row else none
  | a :: l => bif a.arg then muOfB l else none
def St.entryB (row : List T) (args : List AV) : St := ⟨entryTm 0 (entryMs (.one (.p 0 [] 0 0 0)) args), [some ⟨row.length, true, [row], 0⟩], [.p 0 [] 0 0 0]⟩
def endB2 (out : Out) : Option Ob → Prop
  | some ob => out.outs = [.one (.b (rowAt ob.rows 0))] ∧ (ob.box && (rowAt ob.rows 0).all T.flatB) = true ∧ out.al = false
  | none => False
def prOb (st : St) : Option Ob := match st.pr with
  | [.p id [] _ 0 0] => st.obj id
  | _ => none
def endB1 (out : Out) : Option (AV × St) → Prop
  | some (a, st2) => out.res.Own ∧ a = out.res ∧ endB2 out (prOb st2)
  | none => False
def endKB (out : Out) (st : St) (a : AV) : Prop := endB1 out (extAV st a)
/-- What a function hands back, and what its argument holds then. -/
def endB (E : Env) (rs : List ResultVar) (out : Out) : Exit → St → Prop
  | .normal, st => resA E st (endKB out st) rs
  | .ret, st => resA E st (endKB out st) rs
  | _, _ => False
theorem endKB_plain {out : Out} {x : AV} (h : endKB out st x) : Plain x := by
  cases x with
  | tup l =>
    have h : endB1 out ((extAVs st l).map fun (l, st) => (.tup l, st)) := h
    cases he : extAVs st l with
    | none => rw [he] at h; exact h.elim
    | some y => exact extAVs_plain he
  | _ => exact trivial

theorem argsMuB {A : Nat → Prop} {lab : Nat → Option Nat} {row : List T} : ∀ {l : List AV} {vs : List Value}, ArgsRep w A lab 0 l vs → muOfB l = some row → row.all T.flatB = true ∧ vs.length = l.length ∧ ∃ j v0, l[j]? = some (.tup [.one (.b row)]) ∧ vs[j]? = some v0 ∧ OwBox w A (fun b => lab b = some 0) row v0 ∧
      (∀ (i : Nat) x u, l[i]? = some x → vs[i]? = some u → i = j ∨ (RoRep w A x u ∧ x.arg = true)) ∧
      ∀ {w' : World} {A' : Nat → Prop} {lab' : Nat → Option Nat} {o : List T} {kps : List (List Nat)}, OwBox w' A' (fun b => lab' b = some 0) o v0 → OutsRep w w' A' lab' 0 l vs [.one (.b o)] kps
  | [], vs, h, hm => by simp [muOfB] at hm
  | x :: l, [], h, hm => by
    exfalso
    cases x with
    | one t => cases t <;> exact h.elim
    | tup m => rcases m with _ | ⟨x, _ | ⟨y, m⟩⟩ <;> exact h.elim
    | _ => exact h.elim
  | x :: l, v :: vs, h, hm => by
    unfold muOfB at hm
    split at hm
    · simp at *
    · rename_i row' l0 heq
      injection heq with e1 e2
      subst e1
      subst e2
      cases hc : l.all AV.arg && row'.all T.flatB with
      | false => rw [hc] at hm; cases hm
      | true =>
        rw [hc] at hm
        simp only [cond_true, Option.some.injEq] at hm
        subst hm
        simp only [Bool.and_eq_true] at hc
        obtain ⟨hc, hf⟩ := hc
        obtain ⟨q1, q2⟩ := ArgsRep.ro h.2 hc
        refine ⟨hf, by simp [q1], 0, v, rfl, rfl, h.1, fun i x u hi hu => ?_, fun {w' A' lab' o kps} ho => ⟨ho, outsRep_ro hc q1⟩⟩
        · cases i with
          | zero => exact .inl rfl
          | succ i => exact .inr ⟨q2 i x u (by simpa using hi) (by simpa using hu), (List.all_eq_true.1 hc) x (List.mem_of_getElem? (by simpa using hi))⟩
    · rename_i x0 l0 hne heq
      injection heq with e1 e2
      subst e1
      subst e2
      cases hc : x.arg with
      | false => rw [hc] at hm; cases hm
      | true =>
        rw [hc] at hm
        simp only [cond_true] at hm
        have h' : RoRep w A x v ∧ ArgsRep w A lab 0 l vs := by
          cases x with
          | one t =>
            cases t with
            | b row => simp [AV.arg, T.arg, T.arg0] at hc
            | _ => exact h
          | tup m => simp [AV.arg] at hc
          | _ => exact h
        obtain ⟨hf, q1, j, v0, q2, q3, q4, q5, q6⟩ := argsMuB h'.2 hm
        refine ⟨hf, by simp [q1], j + 1, v0, by simpa using q2, by simpa using q3, q4, fun i y u hi hu => ?_, fun {w' A' lab' o kps} ho => ?_⟩
        · cases i with
          | zero => simp at hi hu; subst hi hu; exact .inr ⟨h'.1, hc⟩
          | succ i => exact (q5 i y u (by simpa using hi) (by simpa using hu)).imp (fun h => by omega) id
        · have := q6 (kps := kps) ho
          cases x with
          | one t =>
            cases t with
            | b row => simp [AV.arg, T.arg, T.arg0] at hc
            | _ => exact this
          | tup m => simp [AV.arg] at hc
          | _ => exact this

/-- A walk gives a contract of a function that turns a variable by its address. -/
theorem FnOk.introB (hE : EnvOk E) (hm : E.P.follows .mixedOrders = true) {f : Nat} {fn : Func} {c : Code} {args : List AV} {out : Out} {row : List T} (hf : E.P.funcs[f]? = some fn) (hb : fn.body = some c)
    (hc : fnOk fn c args.length = true) (hargs : muOfB args = some row) (h : wpA E (FnOk E.P) c (endB E fn.results.toList out) (St.entryB row args)) : FnOk E.P f args out := by
  simp only [fnOk, Bool.and_eq_true, Bool.not_eq_true', Nat.ble_eq] at hc
  refine ⟨⟨fn, hf, hc.1.1, by rw [hb]; rfl⟩, fun w A lab vals hA hAl hlab hG => ?_⟩
  obtain ⟨hflat, hlen, j, v0, hj, hv0, hO, hro, hback⟩ := argsMuB hA hargs
  obtain ⟨b0, cs, e0, rfl, hh0, hS0, hsz0, Sub0, hO0, _, _⟩ := hO
  let g1 : Gh := ⟨fun _ => b0, fun _ => 0, fun _ => cs.size, fun b => if lab b = some 0 then some 0 else none, fun b => b < w.heap.size ∧ ¬ A b⟩
  have hA1 : ∀ b, A b → g1.A b := fun b hb => ⟨by show (if lab b = some 0 then some 0 else none) = none; rw [if_neg]; rw [(hAl b hb).2]; exact (fun h => by cases h), fun hh => hh.2 hb⟩
  have hl0 : g1.lab b0 = some 0 := if_pos hS0
  have hsz : vals.size = args.length := by simpa using hlen
  have hp0 : RepT w g1 (St.entryB row args) (.p 0 [] 0 0 0) (.pointer (some ⟨b0, 0, none⟩)) := by
    refine ⟨rfl, ?_⟩
    show RepL w g1 (St.entryB row args) (.p 0 [] 0 0 0) _
    refine ⟨Nat.zero_lt_one, fun ob ho => ?_⟩
    have : (St.entryB row args).obj 0 = some ⟨row.length, true, [row], 0⟩ := rfl
    rw [this] at ho
    cases ho
    exact ⟨by simp [g1], hl0, Nat.zero_lt_one⟩
  refine calls_of_wp hf hb (wpA_ok (w0 := w) (A0 := ⟨fun b => lab b = none, g1.X⟩) (N := fn.ntmps) (pv := [.pointer (some ⟨b0, 0, none⟩)]) (g := g1) hE hm (hG.mono fun b hb hlt => ⟨⟨(hAl b hb).2, fun hh => hh.2 hb⟩, hlt, rfl⟩) (fun _ _ _ h => h) c hc.1.2 ?_ ?_ ?_ h)
  · -- the end
    have fin : ∀ st' a' w' g', resA E st' (endKB out st') fn.results.toList → RepSt w' g' st' fn.ntmps [.pointer (some ⟨b0, 0, none⟩)] a' → Fr w ⟨fun b => lab b = none, g1.X⟩ w' g' →
        a'.defers = [] ∧ ∃ v, (results fn a'.tmps).run E.P w' = .ok v w' ∧ ∃ v' lab', Ending.returned v = .returned v' ∧ Aft w lab w' lab' ∧ ResRep w' (out.A w.heap.size A lab') (fun b => lab' b = some args.length) out.res v' ∧ OutsRep w w' (fun b => A b ∨ (w.heap.size ≤ b ∧ lab' b = none)) lab' 0 args vals.toList out.outs out.keep := by
      intro st' a' w' g' hK hR hF
      obtain ⟨x, v, hx, hrun, hrep⟩ := resA_ok hE hR (fun x hx => endKB_plain hx) hK
      unfold endKB endB1 at hx
      split at hx
      rotate_left
      · exact hx.elim
      rename_i x' st2 he
      obtain ⟨hown, rfl, hx⟩ := hx
      cases hob : prOb st2 with
      | none => rw [hob] at hx; exact hx.elim
      | some ob =>
      rw [hob] at hx
      obtain ⟨hout, hbf, hal⟩ := hx
      simp only [Bool.and_eq_true] at hbf
      obtain ⟨hbox, hflat'⟩ := hbf
      let lab' : Nat → Option Nat := fun b => match g'.lab b with
        | none => none
        | some i => match st2.obj i with
          | none => some args.length
          | some _ => some 0
      have ln : ∀ b, g'.lab b = none → lab' b = none := fun b hb => by simp only [lab', hb]
      obtain ⟨k1, S1, hR1, hS1⟩ := extAV_ok2 hR (A' := out.A w.heap.size A lab') he hrep (.inr hown)
      have hR2 := hR.kills k1
      refine ⟨hR.defers, v, hrun, v, lab', rfl, ?_, hR1.weak (fun b hb => ?_), ?_⟩
      · refine ⟨hF.os, hF.tape, hF.output, hF.size, fun b hb hn => ⟨(hF.blk b hb hn).1, ln b (hF.blk b hb hn).2⟩, fun b i hi => ?_, hF.bs⟩
        cases hl : g'.lab b with
        | none => rw [ln b hl] at hi; cases hi
        | some i => exact (hR.lab b i hl).1
      · obtain ⟨i, h1, _, h3⟩ := hS1 b hb
        simp only [lab', h1, h3]
      · rw [hout]
        unfold prOb at hob
        split at hob
        rotate_left
        · cases hob
        rename_i id ep hpr
        have hpv := hR2.pr.2 0 (.p id [] ep 0 0) (.pointer (some ⟨b0, 0, none⟩)) (by rw [hpr]; rfl) rfl
        obtain ⟨_, hpv⟩ := (show RepL w' g' st2 (.p id [] ep 0 0) _ from hpv.2)
        obtain ⟨hpv, hlb, _⟩ := hpv ob hob
        injection hpv with hpv; injection hpv with hpv; injection hpv with hpv _
        have hRO := hR2.ob id ob hob
        unfold RepOb at hRO
        rw [hbox] at hRO
        obtain ⟨cs', e', row', q1, q2, q3, q4, q5, q6, q7⟩ := hRO
        rw [q1] at hflat' ⊢
        have hrow : rowAt [row'] 0 = row' := rfl
        rw [hrow] at hflat' ⊢
        refine hback ⟨b0, cs', e', rfl, by rw [hpv]; exact q3, ?_, q7.1, fun _ _ => False, fun j t u hj hu => ?_, fun _ _ _ h => h.elim, fun _ _ h => h.elim⟩
        · show lab' b0 = some 0
          rw [hpv]
          simp only [lab', q4, hob]
        · refine flatOw (fun b hb hlt => ?_) ((List.all_eq_true.1 hflat') t (List.mem_of_getElem? hj)) (q7.2 j t u hj hu)
          by_cases hlt : b < w.heap.size
          · have := hb.2
            rw [hF.x.1] at this
            exact .inl (Classical.byContradiction fun hn => this ⟨hlt, hn⟩)
          · exact .inr ⟨by omega, ln b hb.1⟩
    intro e st' a' w' g' hq hR hF
    cases e with
    | normal => exact fin st' a' w' g' hq hR hF
    | ret => exact fin st' a' w' g' hq hR hF
    | _ => exact hq.elim
  · refine ⟨by simp; omega, rfl, fun i => ?_, fun id ob ho => ?_, fun b i hb => ?_, rfl, fun i t u hi hu => ?_⟩
    · show RepAV w g1 _ (look (entryTm 0 (entryMs (.one (.p 0 [] 0 0 0)) args)) i) _
      rcases look_entry (entryMs (.one (.p 0 [] 0 0 0)) args) 0 i with h1 | ⟨x, _, h2, h3⟩
      · rw [h1]; trivial
      · rw [h3]
        rw [Nat.sub_zero, entryMs_get] at h2
        cases hx : args[i]? with
        | none => rw [hx] at h2; cases h2
        | some y =>
          rw [hx] at h2
          simp only [Option.map_some, Option.some.injEq] at h2
          have hk : i < vals.size := by have := (List.getElem?_eq_some_iff.1 hx).1; omega
          have hv : (vals ++ Array.replicate (fn.ntmps - vals.size) undef).getD i undef = vals[i] := by
            simp [Array.getD, Array.getElem_append, hk]
            intro hge
            omega
          rw [hv]
          rcases hro i y vals[i] hx (by simp [hk]) with rfl | ⟨h5, h6⟩
          · rw [hj] at hx
            cases hx
            have : vals[i] = .pointer (some ⟨b0, 0, none⟩) := by
              have e1 : vals.toList[i]? = some vals[i] := by simp [hk]
              rw [hv0] at e1; exact (Option.some.inj e1).symm
            rw [this, ← h2]
            exact hp0
          · have : entryA (.one (.p 0 [] 0 0 0)) y = y := by
              cases y with
              | tup m => simp [AV.arg] at h6
              | _ => rfl
            rw [this] at h2
            rw [← h2]
            exact roRep_arg hA1 h5 h6
    · cases id with
      | zero =>
        have : (St.entryB row args).obj 0 = some ⟨row.length, true, [row], 0⟩ := rfl
        rw [this] at ho
        cases ho
        exact ⟨cs, e0, row, rfl, rfl, hh0, hl0, rfl, rfl, hsz0, fun j t u hj hu => flatRep (fun b hb _ => hA1 b hb) ((List.all_eq_true.1 hflat) t (List.mem_of_getElem? hj)) (hO0 j t u hj hu)⟩
      | succ i =>
        have : (St.entryB row args).obj (i + 1) = none := rfl
        rw [this] at ho; cases ho
    · have hb : (if lab b = some 0 then some 0 else none) = some i := hb
      split at hb
      · rename_i h0
        cases hb
        exact ⟨hlab b 0 h0, Nat.zero_lt_one⟩
      · cases hb
    · cases i with
      | zero => cases hi; cases hu; exact hp0
      | succ i => cases hi
  · exact ⟨rfl, rfl, rfl, Nat.le_refl _, ⟨rfl, fun b hb => hb.1⟩, fun b hb hn => ⟨rfl, by show (if lab b = some 0 then some 0 else none) = none; rw [if_neg]; rw [hn]; exact (fun h => by cases h)⟩, fun b hb => rfl⟩

/-- What a function hands back that gives a new variable's address. -/
def endKP (out : Out) (st : St) : AV → Prop
  | .one (.p id [] _ 0 0) => match st.obj id with
    | some ob => out.outs = [] ∧ out.res = .one (.b (rowAt ob.rows 0)) ∧ (ob.box && (rowAt ob.rows 0).all T.flatB) = true ∧ out.al = true
    | none => False
  | _ => False
def endP (E : Env) (rs : List ResultVar) (out : Out) : Exit → St → Prop
  | .normal, st => resA E st (endKP out st) rs
  | .ret, st => resA E st (endKP out st) rs
  | _, _ => False
theorem endKP_plain {out : Out} {x : AV} (h : endKP out st x) : Plain x := by
  cases x with
  | tup l => exact h.elim
  | _ => exact trivial
/-- A walk gives a contract of a function that gives a new variable's address. -/
theorem FnOk.introP (hE : EnvOk E) (hm : E.P.follows .mixedOrders = true) {f : Nat} {fn : Func} {c : Code} {args : List AV} {out : Out} (hf : E.P.funcs[f]? = some fn) (hb : fn.body = some c)
    (hc : fnOk fn c args.length = true) (hargs : args.all AV.arg = true) (h : wpA E (FnOk E.P) c (endP E fn.results.toList out) (St.entry args)) : FnOk E.P f args out := by
  simp only [fnOk, Bool.and_eq_true, Bool.not_eq_true', Nat.ble_eq] at hc
  refine ⟨⟨fn, hf, hc.1.1, by rw [hb]; rfl⟩, fun w A lab vals hA hAl hlab hG => ?_⟩
  obtain ⟨hlen, hro⟩ := ArgsRep.ro hA hargs
  let g0 : Gh := ⟨fun _ => 0, fun _ => 0, fun _ => 0, fun _ => none, fun b => b < w.heap.size ∧ ¬ A b⟩
  have hA0 : ∀ b, A b → g0.A b := fun b hb => ⟨rfl, fun hh => hh.2 hb⟩
  have hsz : vals.size = args.length := by simpa using hlen
  refine calls_of_wp hf hb (wpA_ok (w0 := w) (A0 := ⟨fun _ => True, g0.X⟩) (N := fn.ntmps) (pv := []) (g := g0) hE hm (hG.mono fun b hb hlt => ⟨⟨trivial, fun hh => hh.2 hb⟩, hlt, rfl⟩) (fun _ _ _ h => h) c hc.1.2 ?_ ?_ ?_ h)
  · -- the end
    have fin : ∀ st' a' w' g', resA E st' (endKP out st') fn.results.toList → RepSt w' g' st' fn.ntmps [] a' → Fr w ⟨fun _ => True, g0.X⟩ w' g' →
        a'.defers = [] ∧ ∃ v, (results fn a'.tmps).run E.P w' = .ok v w' ∧ ∃ v' lab', Ending.returned v = .returned v' ∧ Aft w lab w' lab' ∧ ResRep w' (out.A w.heap.size A lab') (fun b => lab' b = some args.length) out.res v' ∧ OutsRep w w' (fun b => A b ∨ (w.heap.size ≤ b ∧ lab' b = none)) lab' 0 args vals.toList out.outs out.keep := by
      intro st' a' w' g' hK hR hF
      obtain ⟨x, v, hx, hrun, hrep⟩ := resA_ok hE hR (fun x hx => endKP_plain hx) hK
      refine ⟨hR.defers, v, hrun, v, fun b => if b < w.heap.size then none else if g'.lab b = none then none else some args.length, rfl, ?_, ?_⟩
      · refine ⟨hF.os, hF.tape, hF.output, hF.size, fun b hb _ => ⟨(hF.blk b hb trivial).1, if_pos hb⟩, fun b i hi => ?_, hF.bs⟩
        split at hi
        · cases hi
        · split at hi
          · cases hi
          · rename_i hne
            cases hl : g'.lab b with
            | none => exact absurd hl hne
            | some j => exact (hR.lab b j hl).1
      · unfold endKP at hx
        split at hx
        rotate_left
        · exact hx.elim
        rename_i id ep
        split at hx
        rotate_left
        · exact hx.elim
        rename_i ob hob
        obtain ⟨hout, hres, hbf, hal⟩ := hx
        simp only [Bool.and_eq_true] at hbf
        obtain ⟨hbox, hflat'⟩ := hbf
        obtain ⟨_, hpv⟩ := (show RepL w' g' st' (.p id [] ep 0 0) v from hrep.2)
        obtain ⟨hpv, hlb, _⟩ := hpv ob hob
        have hRO := hR.ob id ob hob
        unfold RepOb at hRO
        rw [hbox] at hRO
        obtain ⟨cs', e', row', q1, q2, q3, q4, q5, q6, q7⟩ := hRO
        rw [q1] at hflat' hres
        have hrow : rowAt [row'] 0 = row' := rfl
        rw [hrow] at hflat' hres
        have hge : ¬ g'.β id < w.heap.size := fun hlt => by
          have := (hF.blk _ hlt trivial).2
          rw [q4] at this; cases this
        rw [hres, hout]
        refine ⟨⟨g'.β id, cs', e', by rw [hpv, q5]; simp, q3, ?_, q7.1, fun _ _ => False, fun j t u hj hu => ?_, fun _ _ _ h => h.elim, fun _ _ h => h.elim⟩, outsRep_ro hargs (by simpa using hlen)⟩
        · show (if g'.β id < w.heap.size then none else if g'.lab (g'.β id) = none then none else some args.length) = some args.length
          rw [if_neg hge, if_neg (by rw [q4]; simp)]
        · refine flatOw (fun b hb hlt => ?_) ((List.all_eq_true.1 hflat') t (List.mem_of_getElem? hj)) (q7.2 j t u hj hu)
          by_cases hlt : b < w.heap.size
          · have := hb.2
            rw [hF.x.1] at this
            exact .inl ⟨hal, Classical.byContradiction fun hn => this ⟨hlt, hn⟩⟩
          · refine .inr ⟨by omega, ?_⟩
            show (if b < w.heap.size then none else if g'.lab b = none then none else some args.length) = none
            rw [if_neg hlt, if_pos hb.1]
    intro e st' a' w' g' hq hR hF
    cases e with
    | normal => exact fin st' a' w' g' hq hR hF
    | ret => exact fin st' a' w' g' hq hR hF
    | _ => exact hq.elim
  · refine ⟨by simp; omega, rfl, fun k => ?_, fun id ob ho => ?_, fun b i hb => (by cases hb), rfl, fun i t u hi => ?_⟩
    rotate_left
    · simp [St.obj, St.entry] at ho
    · simp [St.entry] at hi
    show RepAV w g0 _ (look (entryTm 0 args) k) _
    rcases look_entry args 0 k with h1 | ⟨x, _, h2, h3⟩
    · rw [h1]; trivial
    · rw [h3]
      have hk : k < vals.size := by have := (List.getElem?_eq_some_iff.1 h2).1; omega
      simp only [Nat.sub_zero] at h2
      have hv : (vals ++ Array.replicate (fn.ntmps - vals.size) undef).getD k undef = vals[k] := by
        simp [Array.getD, Array.getElem_append, hk]
        intro hge
        omega
      rw [hv]
      refine roRep_arg hA0 (hro k x _ h2 (by simp [hk])) ?_
      exact (List.all_eq_true.1 hargs) x (List.mem_of_getElem? h2)
  · exact ⟨rfl, rfl, rfl, Nat.le_refl _, ⟨rfl, fun b hb => hb.1⟩, fun b hb _ => ⟨rfl, rfl⟩, fun b hb => rfl⟩
end Go.Ev
