/- Calls that turn one of their arguments in place. -/
import Derived.Test.YtjpgineaoghoeaaDoorEvN
set_option linter.unusedSectionVars false
set_option linter.unusedVariables false
set_option linter.unusedSimpArgs false
namespace Go.Ev
open Go
open Classical
variable {E : Env} {w w' w0 : World} {A0 : Fix} {g g' : Gh} {st st' : St} {N : Nat} {pv : List Value} {a : Act}

theorem Ow.slice {A S : Nat → Prop} {v : Value} {k : Nat} {rows : List (List T)} (h : Ow w A S v (.s true k rows)) : ∃ a c, v = .slice a rows.length c := by
  cases h <;> exact ⟨_, _, rfl⟩

/-- The ghost behind a call that turned object id; L: its blocks that were handed on. -/
noncomputable def Gh.mut (g : Gh) (sz n rid id : Nat) (L : Nat → Prop) (live : Prop) (lab' : Nat → Option Nat) : Gh :=
  { g with lab := fun b => if b < sz ∧ ¬ L b then g.lab b else if live ∧ lab' b = some 0 then some id else if lab' b = some n then some rid else none }

theorem muArgs_ok (h : RepSt w g st N pv a) {L : Nat → Prop} {m : AV} {v0 : Value} (hm : ResRep1 w (Sees w g true) (fun b => (if L b then some 0 else (none : Option Nat)) = some 0) m v0) : ∀ {j : Nat} {l l' : List AV} {vs : List Value},
    muArgs st (.tup [m]) j l = some l' → vs.length = l.length → (∀ (i : Nat) x u, l[i]? = some x → vs[i]? = some u → RepAV w g st x u) → vs[j]? = some v0 → noRefX j l = true →
    l'.length = l.length ∧ ArgsRep w (Sees w g true) (fun b => if L b then some 0 else none) 0 l' vs
  | _, [], l', vs, he, _, _, _, _ => by simp [muArgs] at he
  | 0, x :: l, l', [], he, hl, _, _, _ => by simp at hl
  | 0, x :: l, l', v :: vs, he, hl, hr, hv, hn => by
    simp only [muArgs] at he
    split at he
    · rename_i l1 h1
      cases he
      obtain ⟨q1, q2⟩ := roArgs_ok h (al := true) (lab := fun b => if L b then some 0 else none) (k := 1) h1 (by simpa using hl) (fun j t u hj hu => hr (j + 1) t u (by simpa using hj) (by simpa using hu)) (fun _ => hn)
      have : v = v0 := by simpa using hv
      subst this
      exact ⟨by simp [q1], hm, q2⟩
    · cases he
  | j + 1, x :: l, l', [], he, hl, _, _, _ => by simp at hl
  | j + 1, x :: l, l', v :: vs, he, hl, hr, hv, hn => by
    simp only [muArgs] at he
    split at he
    · rename_i x1 l1 h1 h2
      cases he
      simp only [noRefX, Bool.and_eq_true] at hn
      obtain ⟨q1, q2⟩ := muArgs_ok h hm h2 (by simpa using hl) (fun j t u hj hu => hr (j + 1) t u (by simpa using hj) (by simpa using hu)) (by simpa using hv) hn.2
      exact ⟨by simp [q1], .cons_ro (roAV_ok h h1 (hr 0 x v rfl rfl) (fun _ => hn.1)) q2⟩
    · cases he

theorem RoRep.mono' {A A' : Nat → Prop} (hA : ∀ b, A b → A' b) {x : AV} {v : Value} (h : RoRep w A x v) : RoRep w A' x v := by
  cases x with
  | one t => exact Fz.mono (fun b hb _ => ⟨hA b hb, rfl⟩) h
  | agg l =>
    obtain ⟨cs, h1, h2, h3⟩ := h
    exact ⟨cs, h1, h2, fun j t u hj hu => (h3 j t u hj hu).mono (fun b hb _ => ⟨hA b hb, rfl⟩)⟩
  | _ => exact h.elim
theorem roCap_ok (h : RepSt w g st N pv a) {Av : Nat → Prop} (hA2 : ∀ b, g.A b → b < w.heap.size → Av b) (hbx : ∀ i ob, st.obj i = some ob → ob.box = true → g.lab (g.β i) = some i → g.β i < w.heap.size → Av (g.β i)) {t t' : T} {v : Value}
    (hr : RepL w g st t v) (ho : fit v = true) (he : roBox st t = some t') (hn : capOk st t = true) : Fz w Av v t' := by
  have seesA : ∀ b, Sees w g true b → Av b := fun b hb => hA2 b (hb.2 rfl) hb.1
  cases t with
  | p id path ep row off =>
    cases path with
    | cons x y => simp [roBox, ro] at he
    | nil =>
      simp only [roBox] at he
      obtain ⟨hid, hr⟩ := hr
      cases hob : st.obj id with
      | none => rw [hob] at he; simp at he
      | some ob =>
        rw [hob] at he
        obtain ⟨rfl, hlab, _⟩ := hr ob hob
        simp only [capOk, hob, Bool.and_eq_true] at hn
        obtain ⟨hb, hnr⟩ := hn
        simp only [hb, cond_true] at he
        cases hc : roCells st (rowAt ob.rows 0) with
        | none => rw [hc] at he; cases he
        | some r =>
          rw [hc] at he
          cases row with
          | succ n => simp at he
          | zero =>
            simp at he
            subst he
            have hR := h.ob id ob hob
            unfold RepOb at hR
            rw [hb] at hR
            obtain ⟨cs, e, row, q1, q2, q3, q4, q5, q6, q7⟩ := hR
            have hrow : rowAt ob.rows 0 = row := by rw [q1]; rfl
            rw [hrow] at hc hnr
            obtain ⟨p1, p2⟩ := roCells_ok h (al := true) (us := cs.toList) hc (by simpa using q7.1) (fun j t u hj hu => q7.2 j t u hj (by simpa using hu)) (fun _ => hnr)
            have hsz : cs.size = ob.k := by rw [q2]; exact q7.1
            have hlt := (Array.getElem?_eq_some_iff.1 q3).1
            have := Fz.q (w := w) (A := Av) (g.β id) 0 ob.k [r] 0 off (fun _ j => cs.getD j undef) (hbx id ob hob hb q4 hlt) hlt (by simp)
              (fun r' hr' => by simp at hr'; subst hr'; rw [← p1]; simpa using hsz) (fun i j hi hj => ?_) (fun i j r' t hr' ht => ?_)
            · rw [q5]; exact this
            · have : i = 0 := by simpa using hi
              subst this
              simp only [World.cell?, q3, Nat.zero_mul, Nat.zero_add]
              rw [← hsz] at hj
              simp [hj]
            · have hi := (List.getElem?_eq_some_iff.1 hr').1
              have : i = 0 := by simpa using hi
              subst this
              simp at hr'
              subst hr'
              have hj := (List.getElem?_eq_some_iff.1 ht).1
              rw [← p1] at hj
              have hj' : j < cs.size := by simpa using hj
              exact (p2 j t _ ht (by simp [hj'])).mono (fun b hb _ => ⟨seesA b hb, rfl⟩)
  | v x => exact (roBox_ok (al := true) h hr ho he (fun _ => hn)).mono (fun b hb _ => ⟨seesA b hb, rfl⟩)
  | s o k rows => exact (roBox_ok (al := true) h hr ho he (fun _ => hn)).mono (fun b hb _ => ⟨seesA b hb, rfl⟩)
  | q k rows row off => exact (roBox_ok (al := true) h hr ho he (fun _ => hn)).mono (fun b hb _ => ⟨seesA b hb, rfl⟩)
  | n id path ep lo len => simp [capOk, T.noRef] at hn
  | b row => simp [capOk, T.noRef] at hn
  | h => simp [capOk, T.noRef] at hn
  | c _ _ => exact hr.elim
theorem roCaps2_ok (h : RepSt w g st N pv a) {Av : Nat → Prop} (hA2 : ∀ b, g.A b → b < w.heap.size → Av b) (hbx : ∀ i ob, st.obj i = some ob → ob.box = true → g.lab (g.β i) = some i → g.β i < w.heap.size → Av (g.β i)) : ∀ {l l' : List T} {us : List Value}, roCaps st l = some l' → us.length = l.length →
    (∀ (j : Nat) t u, l[j]? = some t → us[j]? = some u → RepL w g st t u ∧ Go.Ev.fit u = true) → l.all (capOk st) = true → us.length = l'.length ∧ ∀ (j : Nat) t u, l'[j]? = some t → us[j]? = some u → Fz w Av u t
  | [], l', us, he, hl, hr, hn => by
    cases he
    exact ⟨hl, fun j t u hj => by simp at hj⟩
  | t :: l, l', [], he, hl, hr, hn => by simp at hl
  | t :: l, l', u :: us, he, hl, hr, hn => by
    simp only [roCaps] at he
    split at he
    · rename_i t1 l1 h1 h2
      cases he
      simp only [List.all_cons, Bool.and_eq_true] at hn
      obtain ⟨q1, q2⟩ := roCaps2_ok h hA2 hbx h2 (by simpa using hl) (fun j t u hj hu => hr (j + 1) t u (by simpa using hj) (by simpa using hu)) hn.2
      refine ⟨by simp [q1], fun j t' u' hj hu => ?_⟩
      cases j with
      | zero => simp at hj hu; subst hj hu; exact roCap_ok h hA2 hbx (hr 0 t u rfl rfl).1 (hr 0 t u rfl rfl).2 h1 hn.1
      | succ j => exact q2 j t' u' (by simpa using hj) (by simpa using hu)
    · cases he
theorem roAV2_ok (h : RepSt w g st N pv a) {Av : Nat → Prop} (hA2 : ∀ b, g.A b → b < w.heap.size → Av b) (hbx : ∀ i ob, st.obj i = some ob → ob.box = true → g.lab (g.β i) = some i → g.β i < w.heap.size → Av (g.β i)) {x x' : AV} {v : Value} (he : roAV st x = some x') (hr : RepAV w g st x v) (hn : argOkX st x = true) : RoRep w Av x' v := by
  have seesA : ∀ b, Sees w g true b → Av b := fun b hb => hA2 b (hb.2 rfl) hb.1
  by_cases hc : ∃ g0 caps, x = .one (.c g0 caps)
  · obtain ⟨g0, caps, rfl⟩ := hc
    simp only [roAV, Option.map_eq_some_iff] at he
    obtain ⟨l, h1, rfl⟩ := he
    obtain ⟨cvs, rfl, q1, q2⟩ := hr.2
    obtain ⟨p1, p2⟩ := roCaps2_ok h hA2 hbx (us := cvs.toList) h1 (by simpa using q1) (fun j t u hj hu => ⟨(q2 j t u hj (by simpa using hu)).2, (q2 j t u hj (by simpa using hu)).1⟩) hn
    exact .c _ _ _ (by simpa using p1) (fun i t v hi hv => p2 i t v hi (by simpa using hv))
  · have : x.noRef = true := by
      cases x with
      | one t => cases t <;> first | exact hn | exact absurd ⟨_, _, rfl⟩ hc
      | _ => exact hn
    exact (roAV_ok h he hr (fun _ => this)).mono' seesA
theorem roArgs2_ok (h : RepSt w g st N pv a) {Av : Nat → Prop} (hA2 : ∀ b, g.A b → b < w.heap.size → Av b) (hbx : ∀ i ob, st.obj i = some ob → ob.box = true → g.lab (g.β i) = some i → g.β i < w.heap.size → Av (g.β i)) {lab : Nat → Option Nat} {k : Nat} : ∀ {l l' : List AV} {vs : List Value}, roArgs st l = some l' → vs.length = l.length → (∀ (j : Nat) x u, l[j]? = some x → vs[j]? = some u → RepAV w g st x u) →
    l.all (argOkX st) = true → l'.length = l.length ∧ ArgsRep w Av lab k l' vs
  | [], l', vs, he, hl, hr, hn => by
    cases he
    have : vs = [] := by simpa using hl
    subst this
    exact ⟨rfl, trivial⟩
  | x :: l, l', [], he, hl, hr, hn => by simp at hl
  | x :: l, l', v :: vs, he, hl, hr, hn => by
    simp only [roArgs] at he
    split at he
    · rename_i x1 l1 h1 h2
      cases he
      simp only [List.all_cons, Bool.and_eq_true] at hn
      obtain ⟨q1, q2⟩ := roArgs2_ok h hA2 hbx h2 (by simpa using hl) (fun j t u hj hu => hr (j + 1) t u (by simpa using hj) (by simpa using hu)) hn.2
      exact ⟨by simp [q1], .cons_ro (roAV2_ok h hA2 hbx h1 (hr 0 x v rfl rfl) hn.1) q2⟩
    · cases he
theorem muArgs2_ok (h : RepSt w g st N pv a) {Av : Nat → Prop} (hA2 : ∀ b, g.A b → b < w.heap.size → Av b) (hbx : ∀ i ob, st.obj i = some ob → ob.box = true → g.lab (g.β i) = some i → g.β i < w.heap.size → Av (g.β i)) {L : Nat → Prop} {m : AV} {v0 : Value} (hm : ResRep1 w Av (fun b => (if L b then some 0 else (none : Option Nat)) = some 0) m v0) : ∀ {j : Nat} {l l' : List AV} {vs : List Value},
    muArgs st (.tup [m]) j l = some l' → vs.length = l.length → (∀ (i : Nat) x u, l[i]? = some x → vs[i]? = some u → RepAV w g st x u) → vs[j]? = some v0 → noRefY st j l = true →
    l'.length = l.length ∧ ArgsRep w Av (fun b => if L b then some 0 else none) 0 l' vs
  | _, [], l', vs, he, _, _, _, _ => by simp [muArgs] at he
  | 0, x :: l, l', [], he, hl, _, _, _ => by simp at hl
  | 0, x :: l, l', v :: vs, he, hl, hr, hv, hn => by
    simp only [muArgs] at he
    split at he
    · rename_i l1 h1
      cases he
      obtain ⟨q1, q2⟩ := roArgs2_ok h hA2 hbx (lab := fun b => if L b then some 0 else none) (k := 1) h1 (by simpa using hl) (fun j t u hj hu => hr (j + 1) t u (by simpa using hj) (by simpa using hu)) hn
      have : v = v0 := by simpa using hv
      subst this
      exact ⟨by simp [q1], hm, q2⟩
    · cases he
  | j + 1, x :: l, l', [], he, hl, _, _, _ => by simp at hl
  | j + 1, x :: l, l', v :: vs, he, hl, hr, hv, hn => by
    simp only [muArgs] at he
    split at he
    · rename_i x1 l1 h1 h2
      cases he
      simp only [noRefY, Bool.and_eq_true] at hn
      obtain ⟨q1, q2⟩ := muArgs2_ok h hA2 hbx hm h2 (by simpa using hl) (fun j t u hj hu => hr (j + 1) t u (by simpa using hj) (by simpa using hu)) (by simpa using hv) hn.2
      exact ⟨by simp [q1], .cons_ro (roAV2_ok h hA2 hbx h1 (hr 0 x v rfl rfl) hn.1) q2⟩
    · cases he

theorem muArgs_at {m : AV} : ∀ {j : Nat} {l l' : List AV}, muArgs st m j l = some l' → l'[j]? = some m
  | _, [], l', he => by simp [muArgs] at he
  | 0, x :: l, l', he => by
    simp only [muArgs] at he
    split at he
    · cases he; rfl
    · cases he
  | j + 1, x :: l, l', he => by
    simp only [muArgs] at he
    split at he
    · rename_i x1 l1 h1 h2
      cases he
      simpa using muArgs_at h2
    · cases he
theorem roAV_plain {x x' : AV} (he : roAV st x = some x') : (∀ l, x' ≠ .tup l) ∧ ∀ r, x' ≠ .one (.b r) := by
  have hro : ∀ {t t' : T}, ro st t = some t' → ∀ r, t' ≠ .b r := by
    intro t t' h r
    cases t with
    | v => cases h; exact fun e => by cases e
    | s o k rows => cases h; exact fun e => by cases e
    | q => cases h; exact fun e => by cases e
    | c g caps => cases caps <;> simp [ro] at h; subst h; exact fun e => by cases e
    | n id p ep lo len =>
      simp only [ro] at h
      split at h
      · cases h; exact fun e => by cases e
      · cases h
    | _ => simp [ro] at h
  cases x with
  | one t =>
    cases t with
    | c g0 caps => simp only [roAV, Option.map_eq_some_iff] at he; obtain ⟨l, _, rfl⟩ := he; exact ⟨fun _ e => (by cases e), fun _ e => (by cases e)⟩
    | p id path ep row off =>
      simp only [roAV, Option.map_eq_some_iff] at he
      obtain ⟨l, h1, rfl⟩ := he
      refine ⟨fun _ e => (by cases e), fun r e => ?_⟩
      cases e
      unfold roBox at h1
      split at h1
      · split at h1
        · revert h1
          cases ‹Ob›.box with
          | false => simp
          | true =>
            simp only [cond_true]
            split
            · intro h1
              rename_i rw0 _ _ _ _ _ _ _
              simp only [Bool.cond_eq_ite] at h1
              split at h1 <;> simp at h1
            · simp
        · cases h1
      · exact hro h1 r rfl
    | v x => simp only [roAV, Option.map_eq_some_iff] at he; obtain ⟨l, h1, rfl⟩ := he; exact ⟨fun _ e => (by cases e), fun r e => by cases e; exact hro h1 r rfl⟩
    | s o k rows => simp only [roAV, Option.map_eq_some_iff] at he; obtain ⟨l, h1, rfl⟩ := he; exact ⟨fun _ e => (by cases e), fun r e => by cases e; exact hro h1 r rfl⟩
    | n id p ep lo len => simp only [roAV, Option.map_eq_some_iff] at he; obtain ⟨l, h1, rfl⟩ := he; exact ⟨fun _ e => (by cases e), fun r e => by cases e; exact hro h1 r rfl⟩
    | q k rows row off => simp only [roAV, Option.map_eq_some_iff] at he; obtain ⟨l, h1, rfl⟩ := he; exact ⟨fun _ e => (by cases e), fun r e => by cases e; exact hro h1 r rfl⟩
    | b row => simp only [roAV, Option.map_eq_some_iff] at he; obtain ⟨l, h1, rfl⟩ := he; exact ⟨fun _ e => (by cases e), fun r e => by cases e; exact hro h1 r rfl⟩
    | h => simp only [roAV, Option.map_eq_some_iff] at he; obtain ⟨l, h1, rfl⟩ := he; exact ⟨fun _ e => (by cases e), fun r e => by cases e; exact hro h1 r rfl⟩
  | agg l => simp only [roAV, Option.map_eq_some_iff] at he; obtain ⟨l', h1, rfl⟩ := he; exact ⟨fun _ e => (by cases e), fun _ e => (by cases e)⟩
  | tup l => simp [roAV] at he
  | may _ _ => simp [roAV] at he
  | lit _ => simp [roAV] at he
  | no => simp [roAV] at he

/-- What is not in place stays out of it. -/
theorem FzA.plain {x x' : AV} (h : FzA x x') (hp : (∀ l, x ≠ .tup l) ∧ ∀ r, x ≠ .one (.b r)) : (∀ l, x' ≠ .tup l) ∧ ∀ r, x' ≠ .one (.b r) := by
  cases h with
  | same => exact hp
  | one h =>
    cases h with
    | same => exact hp
    | sl => exact ⟨fun _ e => (by cases e), fun _ e => (by cases e)⟩
  | agg h => exact ⟨fun _ e => (by cases e), fun _ e => (by cases e)⟩
def PlainAs (l : List AV) : Prop := ∀ x ∈ l, (∀ m, x ≠ .tup m) ∧ ∀ r, x ≠ .one (.b r)
theorem roArgs_plain : ∀ {l l' : List AV}, roArgs st l = some l' → PlainAs l'
  | [], l', he => by cases he; exact fun x hx => by cases hx
  | x :: l, l', he => by
    simp only [roArgs] at he
    split at he
    · rename_i x1 l1 h1 h2
      cases he
      intro y hy
      rcases List.mem_cons.1 hy with rfl | hy
      · exact roAV_plain h1
      · exact roArgs_plain h2 y hy
    · cases he
theorem FzAs.plain {l l' : List AV} (h : FzAs l l') : PlainAs l → PlainAs l' := by
  induction h with
  | same => exact id
  | cons h h' ih =>
    intro hp y hy
    rcases List.mem_cons.1 hy with rfl | hy
    · exact h.plain (hp _ (by simp))
    · exact ih (fun x hx => hp x (by simp [hx])) y hy
theorem FzAs.cons_inv {x : AV} {l l' : List AV} (h : FzAs (x :: l) l') : ∃ x' m, l' = x' :: m ∧ FzA x x' ∧ FzAs l m := by
  cases h with
  | same => exact ⟨x, l, rfl, .same _, .same _⟩
  | cons h h' => exact ⟨_, _, rfl, h, h'⟩
theorem OutsRep.plain {A : Nat → Prop} {lab' : Nat → Option Nat} {k : Nat} {x : AV} {l : List AV} {v : Value} {vs : List Value} {os : List AV} {kps : List (List Nat)} (hx : (∀ m, x ≠ .tup m) ∧ ∀ r, x ≠ .one (.b r)) (h : OutsRep w w' A lab' k (x :: l) (v :: vs) os kps) : OutsRep w w' A lab' k l vs os kps := by
  cases x with
  | one t =>
    cases t with
    | b r => exact absurd rfl (hx.2 r)
    | _ => exact h
  | tup m => exact absurd rfl (hx.1 m)
  | _ => exact h

theorem muOuts {m : AV} {v0 : Value} {A : Nat → Prop} {lab' : Nat → Option Nat} {o : AV} {kps : List (List Nat)} : ∀ {j : Nat} {l l1 l' : List AV} {vs : List Value}, muArgs st (.tup [m]) j l = some l1 → FzAs l1 l' → vs[j]? = some v0 → OutsRep w w' A lab' 0 l' vs [o] kps →
    ResRep1 w' A (fun b => lab' b = some 0) o v0
  | _, [], l1, l', vs, he, _, _, _ => by simp [muArgs] at he
  | j, x :: l, l1, l', [], he, _, hv, _ => by simp at hv
  | 0, x :: l, l1, l', v :: vs, he, hz, hv, h => by
    simp only [muArgs] at he
    split at he
    · cases he
      obtain ⟨x', m', rfl, hx, _⟩ := hz.cons_inv
      have : x' = .tup [m] := by cases hx; rfl
      subst this
      have : v = v0 := by simpa using hv
      subst this
      exact h.1
    · cases he
  | j + 1, x :: l, l1, l', v :: vs, he, hz, hv, h => by
    simp only [muArgs] at he
    split at he
    · rename_i x1 l2 h1 h2
      cases he
      obtain ⟨x', m', rfl, hx, hz'⟩ := hz.cons_inv
      exact muOuts h2 hz' (by simpa using hv) (h.plain (hx.plain (roAV_plain h1)))
    · cases he

theorem mu_core (h : RepSt w g st N pv a) (hF : Fr w0 A0 w g) {P : Program} (hG : GOk P w0 (A0.G w0)) {F : Nat → List AV → Out → Prop} (hFn : ∀ f as out, F f as out → FnOk P f as out) {f : Nat} {args : List AV} {vals : Array Value}
    (hl : vals.toList.length = args.length) (hr : ∀ (j : Nat) x u, args[j]? = some x → vals.toList[j]? = some u → RepAV w g st x u) {j id : Nat} {ob : Ob} (hob : st.obj id = some ob) (hbox : ob.box = false)
    {k : Nat} {rows : List (List T)} {L : Nat → Prop} (hL : ∀ b, L b → g.lab b = some id) {vj : Value} (hvj : vals.toList[j]? = some vj) (hO : Ow w g.A L vj (.s true k rows))
    {as as' : List AV} {rows' : List (List T)} {res : AV} (has : muArgs st (.tup [.one (.s true k rows)]) j args = some as) (hFa : F f as' ⟨res, [.one (.s true k rows')], [], false⟩) (hFz : FzAs as as')
    {Av : Nat → Prop} (hA1 : ∀ b, Av b → b < w.heap.size ∧ ¬ L b) (hA2 : ∀ b, g.A b → b < w.heap.size → Av b) (hA3 : (∀ b, Av b → g.A b) ∨ OwnT (.s true k rows')) (q2 : ArgsRep w Av (fun b => if L b then some 0 else none) 0 as vals.toList)
    {R : List (List T)} (hR : rows'.length = rows.length → R.length = ob.rows.length) {live : Prop}
    (post : ∀ (w' : World) (g1 : Gh) (S' : Nat → Prop), g1.β = g.β → g1.ω = g.ω → g1.sz = g.sz → (live → ∀ b, S' b → g1.lab b = some id) → (∀ b, S' b → L b ∨ w.heap.size ≤ b) →
      (∀ b, b < w.heap.size → ¬ L b → g1.lab b = g.lab b ∧ w'.heap[b]? = w.heap[b]?) → (¬ live → ∀ b, w.heap.size ≤ b → g1.lab b ≠ some id) → (∀ b, g.A b → b < w.heap.size → g1.A b) → (∀ b, b < w.heap.size → bsz w' b = bsz w b) →
      Ow w' g1.A S' vj (.s true k rows') → rows'.length = rows.length →
      RepOb w' g1 st id { ob with rows := R, ep := ob.ep + 1 } ∧ (g.lab (g.β id) = some id → g1.lab (g.β id) = some id)) :
    (∃ fn, P.funcs[f]? = some fn ∧ (fn.name == "runtime.NumGoroutine") = false ∧ fn.body.isSome = true) ∧
    Calls P f vals w fun e w' => ∃ v, e = .returned v ∧ ∀ K : St → AV → Prop, inK (St.pad { st with ob := st.ob.set id (some { ob with rows := R, ep := ob.ep + 1 }) }) K res →
      ∃ st' av g', K st' av ∧ RepSt w' g' st' N pv a ∧ RepAV w' g' st' av v ∧ Fr w0 A0 w' g' := by
  have hCn := hFn f as' _ hFa
  have hid := obj_lt hob
  have hLs : ∀ b, L b → b < w.heap.size := fun b hb => (h.lab b id (hL b hb)).1
  let lab : Nat → Option Nat := fun b => if L b then some 0 else none
  have labL : ∀ b, L b → lab b = some 0 := fun b hb => if_pos hb
  have labN : ∀ b, ¬ L b → lab b = none := fun b hb => if_neg hb
  have hAl : ∀ b, Av b → b < w.heap.size ∧ lab b = none := fun b hb => ⟨(hA1 b hb).1, labN b (hA1 b hb).2⟩
  refine ⟨hCn.fn, (hCn.run w Av lab vals (hFz.args q2) hAl (fun b i hb => ?_) ((hF.gok hG).mono fun b hb hlt => ⟨hA2 b hb hlt, hlt, rfl⟩)).mono ?_⟩
  · by_cases hh : L b
    · exact hLs b hh
    · rw [labN b hh] at hb; cases hb
  rintro e w' ⟨v, lab', rfl, hAft, hRes, hOut⟩
  obtain ⟨n, hn⟩ : ∃ n, n = as'.length := ⟨_, rfl⟩
  rw [← hn] at hRes
  have hn0 : n ≠ 0 := by
    have := muArgs_at has
    have := (List.getElem?_eq_some_iff.1 this).1
    rw [hn, hFz.len]; omega
  have hOw0 : Ow w' (fun b => Av b ∨ NewF w.heap.size lab lab' b) (fun b => lab' b = some 0) vj (.s true k rows') := muOuts has hFz hvj hOut
  have hOw : Ow w' (fun b => Sees w g true b ∨ NewF w.heap.size lab lab' b) (fun b => lab' b = some 0) vj (.s true k rows') := by
    rcases hA3 with hA3 | hA3
    · exact hOw0.mono (fun b hb hlt => ⟨hb.imp (fun h => ⟨(hA1 b h).1, fun _ => hA3 b h⟩) (fun x => x), rfl⟩) (fun b hb _ => ⟨hb, rfl⟩)
    · exact hOw0.own hA3
  have hlen : rows'.length = rows.length := by
    obtain ⟨x1, c1, e1⟩ := hOw.slice
    obtain ⟨x2, c2, e2⟩ := hO.slice
    rw [e1] at e2; injection e2
  let ob1 : Ob := { ob with rows := R, ep := ob.ep + 1 }
  let st1 : St := { st with ob := st.ob.set id (some ob1) }
  let g1 := g.mut w.heap.size n st.ob.length id L live lab'
  have old : ∀ b, b < w.heap.size → ¬ L b → g1.lab b = g.lab b := fun b hb hb2 => if_pos ⟨hb, hb2⟩
  have new : ∀ b, ¬ (b < w.heap.size ∧ ¬ L b) → g1.lab b = if live ∧ lab' b = some 0 then some id else if lab' b = some n then some st.ob.length else none := fun b hb => if_neg hb
  have same : ∀ b, b < w.heap.size → ¬ L b → w'.heap[b]? = w.heap[b]? := fun b hb hb2 => (hAft.blk b hb (labN b hb2)).1
  have aN : ∀ b, g.A b → ¬ L b := fun b hb hh => by have h1 := hb.1; rw [hL b hh] at h1; cases h1
  have gA : ∀ b, g.A b → b < w.heap.size → g1.A b := fun b hb hlt => ⟨by rw [old b hlt (aN b hb)]; exact hb.1, hb.2⟩
  have hx : ∀ b, g.X b → b < w.heap.size := fun b hb => by
    have := (hF.x.2 b (by rw [← hF.x.1]; exact hb)).1
    have := hF.size
    omega
  have newA : ∀ b, NewF w.heap.size lab lab' b → g1.A b := fun b hb => by
    obtain ⟨hge, hnone⟩ := hb
    have h9 : ¬ (b < w.heap.size ∧ ¬ L b) := by
      rintro ⟨q1, q2⟩
      rcases hge with hge | hge
      · omega
      · exact hge (labN b q2)
    refine ⟨by rw [new b h9, hnone]; simp, fun hX => ?_⟩
    rcases hge with hge | hge
    · have := hx b hX; omega
    · by_cases hh : L b
      · exact hF.nx (hL b hh) hX
      · exact hge (labN b hh)
  have S0 : ∀ b, lab' b = some 0 → L b ∨ w.heap.size ≤ b := by
    intro b hb
    by_cases hh : L b
    · exact .inl hh
    · by_cases hlt : b < w.heap.size
      · have := (hAft.blk b hlt (labN b hh)).2
        rw [hb] at this; cases this
      · exact .inr (by omega)
  have notOld : ∀ b, lab' b ≠ none → ¬ (b < w.heap.size ∧ ¬ L b) := by
    rintro b hb ⟨h1, h2⟩
    exact hb (hAft.blk b h1 (labN b h2)).2
  obtain ⟨hRO, hBL⟩ := post w' g1 (fun b => lab' b = some 0) rfl rfl rfl (fun hlv b hb => by rw [new b (notOld b (by rw [hb]; simp)), if_pos ⟨hlv, hb⟩]) S0 (fun b hb hb2 => ⟨old b hb hb2, same b hb hb2⟩) (fun hnl b hb => by
      rw [new b (by omega)]
      rw [if_neg (fun hh => hnl hh.1)]
      split
      · intro hh; cases hh; omega
      · exact fun hh => by cases hh) gA hAft.bs (hOw.mono (fun b hb hlt => ⟨by
      rcases hb with hb | hb
      · exact gA b (hb.2 rfl) hb.1
      · exact newA b hb, rfl⟩) (fun b hb _ => ⟨hb, rfl⟩)) hlen
  have hset : st1.obj id = some ob1 := obj_set_same hid
  have hKp : Keeps w g st w' g1 st1.pad := by
    refine ⟨fun b hb hlt => ⟨gA b hb hlt, same b hlt (aN b hb)⟩, by simp [St.pad, st1], fun i ob' hi ho => ?_, fun i ob' hi ho ob2 h2 => ?_, fun i ob' hi ho => ⟨rfl, rfl, rfl, fun hlb => ?_⟩⟩
    · rw [obj_pad] at ho
      by_cases he : i = id
      · subst he
        rw [hset] at ho; cases ho
        exact ⟨ob, hob, rfl, rfl, hR hlen⟩
      · rw [obj_set_other he] at ho
        exact ⟨ob', ho, rfl, rfl, rfl⟩
    · rw [obj_pad] at ho
      by_cases he : i = id
      · subst he
        rw [hset] at ho; cases ho
        rw [hob] at h2; cases h2
        exact ⟨Nat.le_succ _, fun e => absurd e (Nat.succ_ne_self _)⟩
      · rw [obj_set_other he, h2] at ho
        cases ho
        refine ⟨Nat.le_refl _, fun _ _ hl2 => same _ (h.lab _ _ hl2).1 (fun hh => ?_)⟩
        rw [hL _ hh] at hl2; cases hl2; exact he rfl
    · by_cases he : i = id
      · subst he; exact hBL hlb
      · rw [old _ (h.lab _ _ hlb).1 (fun hh => by rw [hL _ hh] at hlb; cases hlb; exact he rfl)]; exact hlb
  have hRp : RepSt w' g1 st1.pad N pv a := by
    refine ⟨h.size, h.defers, fun i => (h.tm i).keeps hKp, fun i ob' ho => ?_, fun b i hb => ?_, h.pr.1, fun i t u hi hu => (h.pr.2 i t u hi hu).keeps hKp⟩
    · rw [obj_pad] at ho
      by_cases he : i = id
      · subst he
        rw [hset] at ho; cases ho
        unfold RepOb at hRO ⊢
        rw [show ob1.box = false from hbox]
        simp only [hbox] at hRO
        exact hRO
      · have ho' := ho
        rw [obj_set_other he] at ho
        have hi := obj_lt ho
        refine (h.ob i ob' ho).keeps hKp ⟨rfl, rfl, rfl⟩ (fun x hx hlt => ?_) (fun hne hh => ?_)
        · have hnL : ¬ L x := fun hh => by rw [hL _ hh] at hx; cases hx; exact he rfl
          exact ⟨by rw [old x hlt hnL]; exact hx, same x hlt hnL⟩
        · by_cases hb : g.β i < w.heap.size ∧ ¬ L (g.β i)
          · have hh : g1.lab (g.β i) = some i := hh
            rw [old _ hb.1 hb.2] at hh; exact hne hh
          · have hh : g1.lab (g.β i) = some i := hh
            rw [new _ hb] at hh
            split at hh
            · cases hh; exact he rfl
            · split at hh
              · cases hh; omega
              · cases hh
    · by_cases hlt : b < w.heap.size ∧ ¬ L b
      · rw [old b hlt.1 hlt.2] at hb
        have := h.lab b i hb
        have := hAft.size
        exact ⟨by omega, by simp [St.pad, st1]; omega⟩
      · rw [new b hlt] at hb
        split at hb
        · rename_i hlb
          cases hb
          exact ⟨hAft.lt b _ hlb.2, by simp [St.pad, st1]; omega⟩
        · split at hb
          · rename_i hlb
            cases hb
            exact ⟨hAft.lt b _ hlb, by simp [St.pad, st1]⟩
          · cases hb
  have hpool : Pool g1 st1.pad (fun b => lab' b = some n) := by
    intro b hb
    refine ⟨st.ob.length, ?_, ?_⟩
    · rw [new b (notOld b (by rw [hb]; simp)), if_neg, if_pos hb]
      rintro ⟨_, hh⟩
      rw [hb] at hh; cases hh; exact hn0 rfl
    · rw [obj_pad]
      simp [St.obj, st1]
  refine ⟨v, rfl, fun K hKin => ?_⟩
  obtain ⟨st2, av2, g2, hK2, hIn, hAV⟩ := inRes_ok hRp (A := Out.A ⟨res, [.one (.s true k rows')], [], false⟩ w.heap.size Av lab lab') (S := fun b => lab' b = some n) (fun b hb => by
    rcases hb with ⟨ha, _⟩ | hb
    · cases ha
    · exact newA b hb) hpool hRes hKin
  refine ⟨st2, av2, g2, hK2, hIn.rep, hAV, ?_⟩
  refine ⟨hAft.os.trans hF.os, hAft.tape.trans hF.tape, hAft.output.trans hF.output, Nat.le_trans hF.size hAft.size, ⟨hIn.X.trans hF.x.1, hF.x.2⟩, fun b hb hA => ?_, fun b hb => (hAft.bs b (Nat.lt_of_lt_of_le hb hF.size)).trans (hF.bs b hb)⟩
  obtain ⟨p1, p2⟩ := hF.blk b hb hA
  have hlt : b < w.heap.size := Nat.lt_of_lt_of_le hb hF.size
  have hnL : ¬ L b := fun hh => by rw [hL b hh] at p2; cases p2
  exact ⟨(same b hlt hnL).trans p1, hIn.none b (by rw [old b hlt hnL]; exact p2)⟩

theorem muC_split (h : RepSt w g st N pv a) {F : Nat → List AV → Out → Prop} {f : Nat} {args : List AV} {vals : Array Value}
    (hl : vals.toList.length = args.length) (hr : ∀ (j : Nat) x u, args[j]? = some x → vals.toList[j]? = some u → RepAV w g st x u) {j id : Nat} {ob : Ob} (hob : st.obj id = some ob) (hbox : ob.box = false)
    {k : Nat} {rows : List (List T)} {L : Nat → Prop} (hL : ∀ b, L b → g.lab b = some id) {vj : Value} (hvj : vals.toList[j]? = some vj) (hO : Ow w g.A L vj (.s true k rows))
    {Kc : List (List T) → AV → Prop} (hC : muC F f args j st k rows Kc) : ∃ as as' rows' res, muArgs st (.tup [.one (.s true k rows)]) j args = some as ∧ F f as' ⟨res, [.one (.s true k rows')], [], false⟩ ∧ FzAs as as' ∧ Kc rows' res ∧
      ∃ Av : Nat → Prop, (∀ b, Av b → b < w.heap.size ∧ ¬ L b) ∧ (∀ b, g.A b → b < w.heap.size → Av b) ∧ ((∀ b, Av b → g.A b) ∨ OwnT (.s true k rows')) ∧ ArgsRep w Av (fun b => if L b then some 0 else none) 0 as vals.toList := by
  unfold muC at hC
  split at hC
  rotate_left
  · exact hC.elim
  rename_i as has
  obtain ⟨as', rows', res, hFa, hFz, hK⟩ := hC
  have aN : ∀ b, g.A b → ¬ L b := fun b hb hh => by have h1 := hb.1; rw [hL b hh] at h1; cases h1
  rcases hK with hK | hK
  · obtain ⟨hnr, hK⟩ := hK.get
    have hm : ResRep1 w (Sees w g true) (fun b => (if L b then some 0 else (none : Option Nat)) = some 0) (.one (.s true k rows)) vj :=
      (hO.mono (fun b hb hlt => ⟨⟨hlt, fun _ => hb⟩, rfl⟩) (S' := fun b => (if L b then some 0 else (none : Option Nat)) = some 0) (fun b hb _ => ⟨if_pos hb, rfl⟩))
    obtain ⟨q1, q2⟩ := muArgs_ok (L := L) h hm has hl hr hvj hnr
    exact ⟨as, as', rows', res, has, hFa, hFz, hK, Sees w g true, fun b hb => ⟨hb.1, aN b (hb.2 rfl)⟩, fun b hb hlt => ⟨hlt, fun _ => hb⟩, .inl (fun b hb => hb.2 rfl), q2⟩
  · obtain ⟨hnr, hown, hK⟩ := hK.get
    have hA2 : ∀ b, g.A b → b < w.heap.size → b < w.heap.size ∧ ¬ L b := fun b hb hlt => ⟨hlt, aN b hb⟩
    have hm : ResRep1 w (fun b => b < w.heap.size ∧ ¬ L b) (fun b => (if L b then some 0 else (none : Option Nat)) = some 0) (.one (.s true k rows)) vj :=
      (hO.mono (fun b hb hlt => ⟨hA2 b hb hlt, rfl⟩) (S' := fun b => (if L b then some 0 else (none : Option Nat)) = some 0) (fun b hb _ => ⟨if_pos hb, rfl⟩))
    obtain ⟨q1, q2⟩ := muArgs2_ok (Av := fun b => b < w.heap.size ∧ ¬ L b) h hA2 (fun i ob2 h1 h2 h3 h4 => ⟨h4, fun hh => by
      have := hL _ hh
      rw [h3] at this
      cases this
      rw [hob] at h1
      cases h1
      rw [hbox] at h2
      cases h2⟩) hm has hl hr hvj hnr
    exact ⟨as, as', rows', res, has, hFa, hFz, hK, _, fun b hb => hb, hA2, .inr hown, q2⟩

end Go.Ev
