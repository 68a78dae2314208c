/- A contract out of a walk, of a function that turns one of its arguments in place. -/
import Derived.Test.YtjpgineaoghoeaaDoorEvR
set_option linter.unusedSectionVars false
set_option linter.unusedVariables false
set_option linter.unusedSimpArgs false
namespace Go.Ev
open Go
open Classical
variable {E : Env} {w w' w0 : World} {A0 : Fix} {g g' : Gh} {st st' : St} {N : Nat} {pv : List Value} {a : Act}

/-- The argument that is turned in place: its cells an element, its rows. -/
def muOf : List AV → Option (Nat × List (List T))
  | [] => none
  | .tup [.one (.s true k rows)] :: l => bif l.all AV.arg then some (k, rows) else none
  | a :: l => bif a.arg then muOf l else none
def entryA (m : AV) : AV → AV
  | .tup [_] => m
  | x => x
def entryMs (m : AV) : List AV → List AV
  | [] => []
  | x :: l => entryA m x :: entryMs m l
def St.entryM (k : Nat) (rows : List (List T)) (args : List AV) : St := ⟨entryTm 0 (entryMs (.one (.n 1 [] 1 0 rows.length)) args), [none, some ⟨k, false, rows, 0⟩], [.n 1 [] 1 0 rows.length]⟩
theorem entryMs_len (m : AV) : ∀ l : List AV, (entryMs m l).length = l.length
  | [] => rfl
  | x :: l => by simp [entryMs, entryMs_len m l]
theorem entryMs_get (m : AV) : ∀ (l : List AV) (i : Nat), (entryMs m l)[i]? = (l[i]?).map (entryA m)
  | [], i => by simp [entryMs]
  | x :: l, 0 => by simp [entryMs]
  | x :: l, i + 1 => by simp [entryMs, entryMs_get m l i]

def endM2 (out : Out) : Option (List T × St) → Prop
  | some ([t'], _) => out.outs = [.one t'] ∧ out.al = false
  | _ => False
def endM1 (out : Out) : Option (AV × St) → Prop
  | some (a, st2) => out.res.Own ∧ a = out.res ∧ endM2 out (extCells st2 st2.pr)
  | none => False
def endKM (out : Out) (st : St) (a : AV) : Prop := endM1 out (extAV st a)
/-- What a function hands back, and what its argument holds then. -/
def endM (E : Env) (rs : List ResultVar) (out : Out) : Exit → St → Prop
  | .normal, st => resA E st (endKM out st) rs
  | .ret, st => resA E st (endKM out st) rs
  | _, _ => False
theorem endKM_plain {out : Out} {x : AV} (h : endKM out st x) : Plain x := by
  cases x with
  | tup l =>
    have h : endM1 out ((extAVs st l).map fun (l, st) => (.tup l, st)) := h
    cases he : extAVs st l with
    | none => rw [he] at h; exact h.elim
    | some y => exact extAVs_plain he
  | _ => exact trivial

/-- What is handed back, and of what. -/
theorem extAV_ok2 (h : RepSt w g st N pv a) {A' : Nat → Prop} {x x' : AV} {v : Value} (he : extAV st x = some (x', st')) (hr : RepAV w g st x v) (hA : (∀ b, g.A b → A' b) ∨ x'.Own) : Kills st st' ∧ ∃ S, ResRep w A' S x' v ∧ ∀ b, S b → Struck g st st' b := by
  have one : extAV1 st x = some (x', st') → ((∀ b, g.A b → A' b) ∨ x'.Own1) → Kills st st' ∧ ∃ S, ResRep w A' S x' v ∧ ∀ b, S b → Struck g st st' b := by
    intro h1 hA
    obtain ⟨k, S0, hR, hS0⟩ := extAV1_ok h h1 hr hA
    exact ⟨k, S0, hR.res, hS0⟩
  have own1 : ∀ {y : AV}, extAV1 st x = some (y, st') → y.Own → y.Own1 := by
    intro y h1 hy
    cases x with
    | one t => simp only [extAV1, Option.map_eq_some_iff, Prod.exists, Prod.mk.injEq] at h1; obtain ⟨_, _, _, rfl, _⟩ := h1; exact hy
    | agg t => simp only [extAV1, Option.map_eq_some_iff, Prod.exists, Prod.mk.injEq] at h1; obtain ⟨_, _, _, rfl, _⟩ := h1; exact hy
    | lit b => cases h1; exact hy
    | _ => simp [extAV1] at h1
  cases x with
  | tup l =>
    simp only [extAV, Option.map_eq_some_iff, Prod.exists, Prod.mk.injEq] at he
    obtain ⟨l', st1, h1, rfl, rfl⟩ := he
    obtain ⟨vs, rfl, q1, q2⟩ := hr
    have hpl := extAVs_plain h1
    obtain ⟨hk, hl, Sub, hO, hd, hS'⟩ := extAVs_ok (A' := A') (us := vs.toList) h h1 (by simpa using q1) (fun j x u hj hu => by
      have := q2 j x u hj (by simpa using hu)
      rcases hpl x (List.mem_of_getElem? hj) with ⟨t, rfl⟩ | ⟨l, rfl⟩ | ⟨b, rfl⟩ <;> exact this) hA
    exact ⟨hk, fun b => ∃ j, Sub j b, ⟨vs, Sub, rfl, by rw [hl]; exact q1, fun j x u hj hu => hO j x u hj (by simpa using hu), hd, fun j b hb => ⟨j, hb⟩⟩, fun b ⟨j, hb⟩ => hS' j b hb⟩
  | one t => exact one he (hA.imp id (own1 he))
  | agg l => exact one he (hA.imp id (own1 he))
  | may _ _ => simp [extAV, extAV1] at he
  | lit b => exact one he (hA.imp id (own1 he))
  | no => simp [extAV, extAV1] at he

theorem argsMu {A : Nat → Prop} {lab : Nat → Option Nat} {k : Nat} {rows : List (List T)} : ∀ {l : List AV} {vs : List Value}, ArgsRep w A lab 0 l vs → muOf l = some (k, rows) → vs.length = l.length ∧ ∃ j v0, l[j]? = some (.tup [.one (.s true k rows)]) ∧ vs[j]? = some v0 ∧ Ow w A (fun b => lab b = some 0) v0 (.s true k rows) ∧
      (∀ (i : Nat) x u, l[i]? = some x → vs[i]? = some u → i = j ∨ (RoRep w A x u ∧ x.arg = true)) ∧
      ∀ {w' : World} {A' : Nat → Prop} {lab' : Nat → Option Nat} {o : T} {kps : List (List Nat)}, (∀ r, o ≠ .b r) → Ow w' A' (fun b => lab' b = some 0) v0 o → OutsRep w w' A' lab' 0 l vs [.one o] kps
  | [], vs, h, hm => by simp [muOf] at hm
  | x :: l, [], h, hm => by
    exfalso
    cases x with
    | one t => cases t <;> exact h.elim
    | tup m => rcases m with _ | ⟨x, _ | ⟨y, m⟩⟩ <;> exact h.elim
    | _ => exact h.elim
  | x :: l, v :: vs, h, hm => by
    unfold muOf at hm
    split at hm
    · simp at *
    · rename_i k' rows' l0 heq
      injection heq with e1 e2
      subst e1
      subst e2
      cases hc : l.all AV.arg with
      | false => rw [hc] at hm; cases hm
      | true =>
        rw [hc] at hm
        simp only [cond_true, Option.some.injEq, Prod.mk.injEq] at hm
        obtain ⟨rfl, rfl⟩ := hm
        obtain ⟨q1, q2⟩ := ArgsRep.ro h.2 hc
        refine ⟨by simp [q1], 0, v, rfl, rfl, h.1, fun i x u hi hu => ?_, fun {w' A' lab' o kps} hb ho => ⟨?_, outsRep_ro hc q1⟩⟩
        · cases i with
          | zero => exact .inl rfl
          | succ i => exact .inr ⟨q2 i x u (by simpa using hi) (by simpa using hu), (List.all_eq_true.1 hc) x (List.mem_of_getElem? (by simpa using hi))⟩
        · cases o with
          | b r => exact absurd rfl (hb r)
          | _ => exact ho
    · rename_i x0 l0 hne heq
      injection heq with e1 e2
      subst e1
      subst e2
      cases hc : x.arg with
      | false => rw [hc] at hm; cases hm
      | true =>
        rw [hc] at hm
        simp only [cond_true] at hm
        have h' : RoRep w A x v ∧ ArgsRep w A lab 0 l vs := by
          cases x with
          | one t =>
            cases t with
            | b row => simp [AV.arg, T.arg, T.arg0] at hc
            | _ => exact h
          | tup m => simp [AV.arg] at hc
          | _ => exact h
        obtain ⟨q1, j, v0, q2, q3, q4, q5, q6⟩ := argsMu h'.2 hm
        refine ⟨by simp [q1], j + 1, v0, by simpa using q2, by simpa using q3, q4, fun i y u hi hu => ?_, fun {w' A' lab' o kps} hb ho => ?_⟩
        · cases i with
          | zero => simp at hi hu; subst hi hu; exact .inr ⟨h'.1, hc⟩
          | succ i => exact (q5 i y u (by simpa using hi) (by simpa using hu)).imp (fun h => by omega) id
        · have := q6 (kps := kps) hb ho
          cases x with
          | one t =>
            cases t with
            | b row => simp [AV.arg, T.arg, T.arg0] at hc
            | _ => exact this
          | tup m => simp [AV.arg] at hc
          | _ => exact this

theorem kills_pr {st st' : St} (k : Kills st st') : st'.pr = st.pr := k.pr

/-- A walk gives a contract of a function that turns one of its arguments in place. -/
theorem FnOk.introM (hE : EnvOk E) (hm : E.P.follows .mixedOrders = true) {f : Nat} {fn : Func} {c : Code} {args : List AV} {out : Out} {k : Nat} {rows : List (List T)} (hf : E.P.funcs[f]? = some fn) (hb : fn.body = some c)
    (hc : fnOk fn c args.length = true) (hargs : muOf args = some (k, rows)) (h : wpA E (FnOk E.P) c (endM E fn.results.toList out) (St.entryM k rows args)) : FnOk E.P f args out := by
  simp only [fnOk, Bool.and_eq_true, Bool.not_eq_true', Nat.ble_eq] at hc
  refine ⟨⟨fn, hf, hc.1.1, by rw [hb]; rfl⟩, fun w A lab vals hA hAl hlab hG => ?_⟩
  obtain ⟨hlen, j, v0, hj, hv0, hO, hro, hback⟩ := argsMu hA hargs
  let g0 : Gh := ⟨fun _ => 0, fun _ => 0, fun _ => 0, fun b => if lab b = some 0 then some 0 else none, fun b => b < w.heap.size ∧ ¬ A b ∧ lab b = none⟩
  have hA0 : ∀ b, A b → g0.A b := fun b hb => ⟨by show (if lab b = some 0 then some 0 else none) = none; rw [if_neg]; rw [(hAl b hb).2]; exact (fun h => by cases h), fun hh => hh.2.1 hb⟩
  have hsz : vals.size = args.length := by simpa using hlen
  let st0 : St := ⟨[], [none], []⟩
  let a0 : Act := { tmps := vals ++ Array.replicate (fn.ntmps - vals.size) undef, defers := [] }
  have hst0 : RepSt w g0 st0 fn.ntmps [] a0 := by
    refine ⟨by simp [a0]; omega, rfl, fun k => trivial, fun id ob ho => ?_, fun b i hb => ?_, rfl, fun i t u hi => by simp [st0] at hi⟩
    · unfold St.obj at ho
      cases id with
      | zero => simp [st0] at ho
      | succ i => simp [st0] at ho
    · have hb : (if lab b = some 0 then some 0 else none) = some i := hb
      split at hb
      · rename_i h0
        cases hb
        exact ⟨hlab b 0 h0, by simp [st0]⟩
      · cases hb
  obtain ⟨g1, hIn, hT⟩ := inCell_ok hst0 (S := fun b => lab b = some 0) hA0 (fun x hx => ⟨0, if_pos hx, rfl⟩) hO (t' := .n 1 [] 1 0 rows.length) (st' := ⟨[], [none, some ⟨k, false, rows, 0⟩], []⟩) rfl
  have hA1 : ∀ b, A b → g1.A b := fun b hb => hIn.A (hA0 b hb)
  have hKp : Keeps w g1 ⟨[], [none, some ⟨k, false, rows, 0⟩], []⟩ w g1 (St.entryM k rows args) :=
    ⟨fun _ h _ => ⟨h, rfl⟩, Nat.le_refl _, fun _ ob' _ h => ⟨ob', h, rfl, rfl, rfl⟩, fun i ob' _ h ob h' => by
      have e : St.obj ⟨[], [none, some ⟨k, false, rows, 0⟩], []⟩ i = some ob' := h
      rw [h'] at e; cases e; exact ⟨Nat.le_refl _, fun _ _ _ => rfl⟩, fun _ _ _ _ => ⟨rfl, rfl, rfl, fun h => h⟩⟩
  have hT1 := hT.keeps hKp
  refine calls_of_wp hf hb (wpA_ok (w0 := w) (A0 := ⟨fun b => lab b = none, g0.X⟩) (N := fn.ntmps) (pv := [v0]) (g := g1) hE hm (hG.mono fun b hb hlt => ⟨⟨(hAl b hb).2, fun hh => hh.2.1 hb⟩, hlt, rfl⟩) (fun _ _ _ h => h) c hc.1.2 ?_ ?_ ?_ h)
  · -- the end
    have fin : ∀ st' a' w' g', resA E st' (endKM out st') fn.results.toList → RepSt w' g' st' fn.ntmps [v0] a' → Fr w ⟨fun b => lab b = none, g0.X⟩ w' g' →
        a'.defers = [] ∧ ∃ v, (results fn a'.tmps).run E.P w' = .ok v w' ∧ ∃ v' lab', Ending.returned v = .returned v' ∧ Aft w lab w' lab' ∧ ResRep w' (out.A w.heap.size A lab lab') (fun b => lab' b = some args.length) out.res v' ∧ OutsRep w w' (fun b => A b ∨ NewF w.heap.size lab lab' b) lab' 0 args vals.toList out.outs out.keep := by
      intro st' a' w' g' hK hR hF
      obtain ⟨x, v, hx, hrun, hrep⟩ := resA_ok hE hR (fun x hx => endKM_plain hx) hK
      unfold endKM endM1 at hx
      split at hx
      rotate_left
      · exact hx.elim
      rename_i x' st2 he
      obtain ⟨hown, rfl, hx⟩ := hx
      unfold endM2 at hx
      split at hx
      rotate_left
      · exact hx.elim
      rename_i t' st3 he2
      obtain ⟨hout, hal⟩ := hx
      let lab' : Nat → Option Nat := fun b => match g'.lab b with
        | none => none
        | some i => match st2.obj i with
          | none => some args.length
          | some _ => some 0
      have ln : ∀ b, g'.lab b = none → lab' b = none := fun b hb => by simp only [lab', hb]
      have ln' : ∀ b, lab' b = none → g'.lab b = none := fun b hb => by
        cases hl : g'.lab b with
        | none => rfl
        | some i =>
          simp only [lab', hl] at hb
          cases ho : st2.obj i <;> rw [ho] at hb <;> cases hb
      obtain ⟨k1, S1, hR1, hS1⟩ := extAV_ok2 hR (A' := out.A w.heap.size A lab lab') he hrep (.inr hown)
      have hR2 := hR.kills k1
      have hpr : st2.pr.length = 1 := by rw [k1.pr, ← hR.pr.1]; rfl
      obtain ⟨k2, hl2, Sub, hO2, hd2, hS2⟩ := extCells_ok (us := [v0]) hR2 he2 (by rw [hpr]; rfl) (fun i t u hi hu => by
        have := hR2.pr.2 i t u hi hu
        exact this)
      refine ⟨hR.defers, v, hrun, v, lab', rfl, ?_, hR1.weak (fun b hb => ?_), ?_⟩
      · refine ⟨hF.os, hF.tape, hF.output, hF.size, fun b hb hn => ⟨(hF.blk b hb hn).1, ln b (hF.blk b hb hn).2⟩, fun b i hi => ?_, hF.bs⟩
        cases hl : g'.lab b with
        | none => rw [ln b hl] at hi; cases hi
        | some i => exact (hR.lab b i hl).1
      · obtain ⟨i, h1, _, h3⟩ := hS1 b hb
        simp only [lab', h1, h3]
      · rw [hout]
        refine hback (fun r hr => ?_) (((hO2 0 t' v0 rfl rfl).mono (fun b hb hlt => ⟨?_, rfl⟩) (fun b hb hlt => ⟨?_, rfl⟩)))
        · have := hO2 0 t' v0 rfl rfl
          rw [hr] at this
          cases this
        · by_cases hlt : b < w.heap.size
          · have := hb.2
            rw [hF.x.1] at this
            by_cases hA : A b
            · exact .inl hA
            · exact .inr ⟨.inr (fun hn => this ⟨hlt, hA, hn⟩), ln b hb.1⟩
          · exact .inr ⟨.inl (by omega), ln b hb.1⟩
        · obtain ⟨i, h1, ⟨ob, h2⟩, _⟩ := hS2 0 b hb
          simp only [lab', h1, h2]
    intro e st' a' w' g' hq hR hF
    cases e with
    | normal => exact fin st' a' w' g' hq hR hF
    | ret => exact fin st' a' w' g' hq hR hF
    | _ => exact hq.elim
  · refine ⟨hIn.rep.size, rfl, fun i => ?_, fun id ob ho => ?_, hIn.rep.lab, rfl, fun i t u hi hu => ?_⟩
    · show RepAV w g1 _ (look (entryTm 0 (entryMs (.one (.n 1 [] 1 0 rows.length)) args)) i) _
      rcases look_entry (entryMs (.one (.n 1 [] 1 0 rows.length)) args) 0 i with h1 | ⟨x, _, h2, h3⟩
      · rw [h1]; trivial
      · rw [h3]
        rw [Nat.sub_zero, entryMs_get] at h2
        cases hx : args[i]? with
        | none => rw [hx] at h2; cases h2
        | some y =>
          rw [hx] at h2
          simp only [Option.map_some, Option.some.injEq] at h2
          have hk : i < vals.size := by have := (List.getElem?_eq_some_iff.1 hx).1; omega
          have hv : (vals ++ Array.replicate (fn.ntmps - vals.size) undef).getD i undef = vals[i] := by
            simp [Array.getD, Array.getElem_append, hk]
            intro hge
            omega
          rw [hv]
          rcases hro i y vals[i] hx (by simp [hk]) with rfl | ⟨h5, h6⟩
          · rw [hj] at hx
            cases hx
            have : vals[i] = v0 := by
              have e1 : vals.toList[i]? = some vals[i] := by simp [hk]
              rw [hv0] at e1; cases e1; rfl
            rw [this, ← h2]
            exact hT1
          · have : entryA (.one (.n 1 [] 1 0 rows.length)) y = y := by
              cases y with
              | tup m => simp [AV.arg] at h6
              | _ => rfl
            rw [this] at h2
            rw [← h2]
            exact roRep_arg hA1 h5 h6
    · exact (hIn.rep.ob id ob ho).keeps hKp ⟨rfl, rfl, rfl⟩ (fun x hx _ => ⟨hx, rfl⟩) (fun h => h)
    · cases i with
      | zero =>
        simp [St.entryM] at hi hu
        subst hi hu
        exact hT1
      | succ i => simp [St.entryM] at hi
  · exact ⟨rfl, rfl, rfl, Nat.le_refl _, ⟨hIn.X, fun b hb => ⟨hb.1, hb.2.2⟩⟩, fun b hb hn => ⟨rfl, hIn.none b (by show (if lab b = some 0 then some 0 else none) = none; rw [if_neg]; rw [hn]; exact (fun h => by cases h))⟩, fun b hb => rfl⟩
end Go.Ev
