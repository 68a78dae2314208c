/- Calls that turn a struct, or a variable, in place. -/
import Derived.Test.YtjpgineaoghoeaaDoorEvNm
set_option linter.unusedSectionVars false
set_option linter.unusedVariables false
set_option linter.unusedSimpArgs false
namespace Go.Ev
open Go
open Classical
variable {E : Env} {w w' w0 : World} {A0 : Fix} {g g' : Gh} {st st' : St} {N : Nat} {pv : List Value} {a : Act}

/-- The ghost behind a call that turned some objects; L: their blocks; own: whose is what then. -/
noncomputable def Gh.muts (g : Gh) (sz n rid : Nat) (L : Nat → Prop) (own : Nat → Nat → Prop) (lab' : Nat → Option Nat) : Gh :=
  { g with lab := fun b => if b < sz ∧ ¬ L b then g.lab b else if hh : ∃ i, own i b then some hh.choose else if lab' b = some n then some rid else none }

theorem muOuts1 {m : AV} {v0 : Value} {A : Nat → Prop} {lab' : Nat → Option Nat} {o : AV} {kps : List (List Nat)} : ∀ {j : Nat} {l l1 l' : List AV} {vs : List Value}, muArgs st (.tup [m]) j l = some l1 → FzAs l1 l' → vs[j]? = some v0 → OutsRep w w' A lab' 0 l' vs [o] kps →
    ResRep1 w' A (fun b => lab' b = some 0) o v0 := muOuts

theorem mu_gen (h : RepSt w g st N pv a) (hF : Fr w0 A0 w g) {P : Program} (hG : GOk P w0 (A0.G w0)) {F : Nat → List AV → Out → Prop} (hFn : ∀ f as out, F f as out → FnOk P f as out) {f : Nat} {args : List AV} {vals : Array Value}
    {I : Nat → Prop} {L : Nat → Prop} (hL : ∀ b, L b → ∃ i, I i ∧ g.lab b = some i) {j : Nat} {vj : Value} (hvj : vals.toList[j]? = some vj) {m o res : AV}
    {as as' : List AV} (has : muArgs st (.tup [m]) j args = some as) (hFa : F f as' ⟨res, [o], [], false⟩) (hFz : FzAs as as')
    {Av : Nat → Prop} (hA1 : ∀ b, Av b → b < w.heap.size ∧ ¬ L b) (hA2 : ∀ b, g.A b → b < w.heap.size → Av b) (hA3 : ∀ b, Av b → g.A b) (q2 : ArgsRep w Av (fun b => if L b then some 0 else none) 0 as vals.toList)
    {st1 : St} (htm : st1.tm = st.tm) (hpr : st1.pr = st.pr) (hln : st1.ob.length = st.ob.length) (hoth : ∀ i, ¬ I i → st1.obj i = st.obj i)
    (hin : ∀ i, I i → ∃ ob ob1, st.obj i = some ob ∧ st1.obj i = some ob1 ∧ ob1.box = ob.box ∧ ob1.k = ob.k ∧ ob.ep < ob1.ep)
    (post : ∀ (w' : World) (lab' : Nat → Option Nat), Aft w (fun b => if L b then some 0 else none) w' lab' → ResRep1 w' (fun b => Av b ∨ NewF w.heap.size (fun b => if L b then some 0 else none) lab' b) (fun b => lab' b = some 0) o vj →
      ∃ own : Nat → Nat → Prop, (∀ i b, own i b → I i ∧ lab' b = some 0) ∧ (∀ i i' b, own i b → own i' b → i = i') ∧ (∀ i ob ob1, I i → st.obj i = some ob → st1.obj i = some ob1 → ob1.rows.length = ob.rows.length) ∧
        ∀ g1 : Gh, g1.β = g.β → g1.ω = g.ω → g1.sz = g.sz → (∀ i b, own i b → g1.lab b = some i) → (∀ b, b < w.heap.size → ¬ L b → g1.lab b = g.lab b ∧ w'.heap[b]? = w.heap[b]?) → (∀ b i, I i → g1.lab b = some i → own i b ∨ (b < w.heap.size ∧ ¬ L b ∧ g.lab b = some i)) →
          (∀ b, g.A b → b < w.heap.size → g1.A b) → (∀ b, NewF w.heap.size (fun b => if L b then some 0 else none) lab' b → g1.A b) → (∀ b, b < w.heap.size → bsz w' b = bsz w b) →
          ∀ i ob1, I i → st1.obj i = some ob1 → RepOb w' g1 st1 i ob1 ∧ (g.lab (g.β i) = some i → g1.lab (g.β i) = some i)) :
    (∃ fn, P.funcs[f]? = some fn ∧ (fn.name == "runtime.NumGoroutine") = false ∧ fn.body.isSome = true) ∧
    Calls P f vals w fun e w' => ∃ v, e = .returned v ∧ ∀ K : St → AV → Prop, inK st1.pad K res →
      ∃ st' av g', K st' av ∧ RepSt w' g' st' N pv a ∧ RepAV w' g' st' av v ∧ Fr w0 A0 w' g' := by
  have hCn := hFn f as' _ hFa
  have hLs : ∀ b, L b → b < w.heap.size := fun b hb => by
    obtain ⟨i, _, h2⟩ := hL b hb
    exact (h.lab b i h2).1
  let lab : Nat → Option Nat := fun b => if L b then some 0 else none
  have labL : ∀ b, L b → lab b = some 0 := fun b hb => if_pos hb
  have labN : ∀ b, ¬ L b → lab b = none := fun b hb => if_neg hb
  have hAl : ∀ b, Av b → b < w.heap.size ∧ lab b = none := fun b hb => ⟨(hA1 b hb).1, labN b (hA1 b hb).2⟩
  refine ⟨hCn.fn, (hCn.run w Av lab vals (hFz.args q2) hAl (fun b i hb => ?_) ((hF.gok hG).mono fun b hb hlt => ⟨hA2 b hb hlt, hlt, rfl⟩)).mono ?_⟩
  · by_cases hh : L b
    · exact hLs b hh
    · rw [labN b hh] at hb; cases hb
  rintro e w' ⟨v, lab', rfl, hAft, hRes, hOut⟩
  obtain ⟨n, hn⟩ : ∃ n, n = as'.length := ⟨_, rfl⟩
  rw [← hn] at hRes
  have hn0 : n ≠ 0 := by
    have := muArgs_at has
    have := (List.getElem?_eq_some_iff.1 this).1
    rw [hn, hFz.len]; omega
  have hOw := muOuts1 has hFz hvj hOut
  obtain ⟨own, hown, hone, hrl, hpost⟩ := post w' lab' hAft hOw
  let g1 := g.muts w.heap.size n st.ob.length L own lab'
  have old : ∀ b, b < w.heap.size → ¬ L b → g1.lab b = g.lab b := fun b hb hb2 => if_pos ⟨hb, hb2⟩
  have same : ∀ b, b < w.heap.size → ¬ L b → w'.heap[b]? = w.heap[b]? := fun b hb hb2 => (hAft.blk b hb (labN b hb2)).1
  have notOld : ∀ b, lab' b ≠ none → ¬ (b < w.heap.size ∧ ¬ L b) := by
    rintro b hb ⟨h1, h2⟩
    exact hb (hAft.blk b h1 (labN b h2)).2
  have isOwn : ∀ i b, own i b → g1.lab b = some i := by
    intro i b hb
    have h1 : ¬ (b < w.heap.size ∧ ¬ L b) := notOld b (by rw [(hown i b hb).2]; simp)
    have hex : ∃ i, own i b := ⟨i, hb⟩
    show (if b < w.heap.size ∧ ¬ L b then g.lab b else if hh : ∃ i, own i b then some hh.choose else if lab' b = some n then some st.ob.length else none) = some i
    rw [if_neg h1, dif_pos hex]
    exact congrArg some (hone _ _ _ hex.choose_spec hb)
  have new : ∀ b, ¬ (b < w.heap.size ∧ ¬ L b) → (∀ i, ¬ own i b) → g1.lab b = if lab' b = some n then some st.ob.length else none := fun b hb h2 => by
    show (if b < w.heap.size ∧ ¬ L b then g.lab b else if hh : ∃ i, own i b then some hh.choose else if lab' b = some n then some st.ob.length else none) = _
    rw [if_neg hb, dif_neg (fun ⟨i, hi⟩ => h2 i hi)]
  have aN : ∀ b, g.A b → ¬ L b := fun b hb hh => by
    obtain ⟨i, _, h2⟩ := hL b hh
    have h1 := hb.1; rw [h2] at h1; cases h1
  have gA : ∀ b, g.A b → b < w.heap.size → g1.A b := fun b hb hlt => ⟨by rw [old b hlt (aN b hb)]; exact hb.1, hb.2⟩
  have hx : ∀ b, g.X b → b < w.heap.size := fun b hb => by
    have := (hF.x.2 b (by rw [← hF.x.1]; exact hb)).1
    have := hF.size
    omega
  have newA : ∀ b, NewF w.heap.size lab lab' b → g1.A b := fun b hb => by
    obtain ⟨hge, hnone⟩ := hb
    have h9 : ¬ (b < w.heap.size ∧ ¬ L b) := by
      rintro ⟨q1, q2⟩
      rcases hge with hge | hge
      · omega
      · exact hge (labN b q2)
    refine ⟨by rw [new b h9 (fun i hi => by have := (hown i b hi).2; rw [hnone] at this; cases this), hnone]; simp, fun hX => ?_⟩
    rcases hge with hge | hge
    · have := hx b hX; omega
    · by_cases hh : L b
      · obtain ⟨i, _, h2⟩ := hL b hh; exact hF.nx h2 hX
      · exact hge (labN b hh)
  have back : ∀ b i, I i → g1.lab b = some i → own i b ∨ (b < w.heap.size ∧ ¬ L b ∧ g.lab b = some i) := by
    intro b i hi hb
    by_cases h1 : b < w.heap.size ∧ ¬ L b
    · rw [old b h1.1 h1.2] at hb
      exact .inr ⟨h1.1, h1.2, hb⟩
    · by_cases h2 : ∃ k, own k b
      · obtain ⟨k, hk⟩ := h2
        have := isOwn k b hk
        rw [hb] at this; cases this
        exact .inl hk
      · rw [new b h1 (fun k hk => h2 ⟨k, hk⟩)] at hb
        split at hb
        · cases hb
          obtain ⟨ob, _, h3, _⟩ := hin _ hi
          have := obj_lt h3
          omega
        · cases hb
  have hP := hpost g1 rfl rfl rfl isOwn (fun b hb hb2 => ⟨old b hb hb2, same b hb hb2⟩) back gA newA hAft.bs
  have hKp : Keeps w g st w' g1 st1.pad := by
    refine ⟨fun b hb hlt => ⟨gA b hb hlt, same b hlt (aN b hb)⟩, by simp [St.pad, hln], fun i ob' hi ho => ?_, fun i ob' hi ho ob2 h2 => ?_, fun i ob' hi ho => ⟨rfl, rfl, rfl, fun hlb => ?_⟩⟩
    · rw [obj_pad] at ho
      by_cases he : I i
      · obtain ⟨ob, ob1, h1, h2, h3, h4, h5⟩ := hin i he
        rw [h2] at ho; cases ho
        exact ⟨ob, h1, h3, h4, hrl i ob _ he h1 h2⟩
      · rw [hoth i he] at ho
        exact ⟨ob', ho, rfl, rfl, rfl⟩
    · rw [obj_pad] at ho
      by_cases he : I i
      · obtain ⟨ob, ob1, h1, h2', h3, h4, h5⟩ := hin i he
        rw [h2'] at ho; cases ho
        rw [h1] at h2; cases h2
        exact ⟨Nat.le_of_lt h5, fun e => absurd e (by omega)⟩
      · rw [hoth i he, h2] at ho
        cases ho
        refine ⟨Nat.le_refl _, fun _ _ hl2 => same _ (h.lab _ _ hl2).1 (fun hh => ?_)⟩
        obtain ⟨k, hk, hk2⟩ := hL _ hh
        rw [hl2] at hk2; cases hk2; exact he hk
    · rw [obj_pad] at ho
      by_cases he : I i
      · exact (hP i ob' he ho).2 hlb
      · rw [old _ (h.lab _ _ hlb).1 (fun hh => by
          obtain ⟨k, hk, hk2⟩ := hL _ hh
          rw [hlb] at hk2; cases hk2; exact he hk)]; exact hlb
  have hRp : RepSt w' g1 st1.pad N pv a := by
    refine ⟨h.size, h.defers, fun i => ?_, fun i ob' ho => ?_, fun b i hb => ?_, ?_, fun i t u hi hu => ?_⟩
    · show RepAV w' g1 st1.pad (look st1.tm i) _
      rw [htm]; exact (h.tm i).keeps hKp
    · rw [obj_pad] at ho
      by_cases he : I i
      · have hb := (hP i ob' he ho).1
        have hpd : Keeps w' g1 st1 w' g1 st1.pad := ⟨fun _ h _ => ⟨h, rfl⟩, by simp [St.pad], fun _ ob' _ h => ⟨ob', by rw [obj_pad] at h; exact h, rfl, rfl, rfl⟩, fun k ob' _ h ob h' => by
          rw [obj_pad, h'] at h; cases h; exact ⟨Nat.le_refl _, fun _ _ _ => rfl⟩, fun _ _ _ _ => ⟨rfl, rfl, rfl, fun h => h⟩⟩
        exact hb.keeps hpd ⟨rfl, rfl, rfl⟩ (fun x hx hlt => ⟨hx, rfl⟩) (fun hne hh => hne hh)
      · rw [hoth i he] at ho
        have hi := obj_lt ho
        refine (h.ob i ob' ho).keeps hKp ⟨rfl, rfl, rfl⟩ (fun x hx hlt => ?_) (fun hne hh => ?_)
        · have hnL : ¬ L x := fun hh => by
            obtain ⟨k, hk, hk2⟩ := hL _ hh
            rw [hx] at hk2; cases hk2; exact he hk
          exact ⟨by rw [old x hlt hnL]; exact hx, same x hlt hnL⟩
        · have hh : g1.lab (g.β i) = some i := hh
          by_cases hb : g.β i < w.heap.size ∧ ¬ L (g.β i)
          · rw [old _ hb.1 hb.2] at hh; exact hne hh
          · by_cases h2 : ∃ k, own k (g.β i)
            · obtain ⟨k, hk⟩ := h2
              have := isOwn k _ hk
              rw [hh] at this; cases this
              exact he (hown _ _ hk).1
            · rw [new _ hb (fun k hk => h2 ⟨k, hk⟩)] at hh
              split at hh
              · cases hh; omega
              · cases hh
    · by_cases hlt : b < w.heap.size ∧ ¬ L b
      · rw [old b hlt.1 hlt.2] at hb
        have := h.lab b i hb
        have := hAft.size
        exact ⟨by omega, by simp [St.pad, hln]; omega⟩
      · by_cases h2 : ∃ k, own k b
        · obtain ⟨k, hk⟩ := h2
          have h3 := isOwn k b hk
          rw [hb] at h3; cases h3
          obtain ⟨ob, _, h4, _⟩ := hin _ (hown _ _ hk).1
          have := obj_lt h4
          exact ⟨hAft.lt b _ (hown _ _ hk).2, by simp [St.pad, hln]; omega⟩
        · rw [new b hlt (fun k hk => h2 ⟨k, hk⟩)] at hb
          split at hb
          · rename_i hlb
            cases hb
            exact ⟨hAft.lt b _ hlb, by simp [St.pad, hln]⟩
          · cases hb
    · show pv.length = st1.pr.length
      rw [hpr]; exact h.pr.1
    · have hi : st1.pr[i]? = some t := hi
      rw [hpr] at hi
      exact (h.pr.2 i t u hi hu).keeps hKp
  have hpool : Pool g1 st1.pad (fun b => lab' b = some n) := by
    intro b hb
    refine ⟨st.ob.length, ?_, ?_⟩
    · rw [new b (notOld b (by rw [hb]; simp)) (fun i hi => by
        have := (hown i b hi).2
        rw [hb] at this; cases this; exact hn0 rfl), if_pos hb]
    · rw [obj_pad]
      unfold St.obj
      rw [List.getElem?_eq_none (by omega)]
      rfl
  refine ⟨v, rfl, fun K hKin => ?_⟩
  obtain ⟨st2, av2, g2, hK2, hIn, hAV⟩ := inRes_ok hRp (A := Out.A ⟨res, [o], [], false⟩ w.heap.size Av lab lab') (S := fun b => lab' b = some n) (fun b hb => by
    rcases hb with ⟨ha, _⟩ | hb
    · cases ha
    · exact newA b hb) hpool hRes hKin
  refine ⟨st2, av2, g2, hK2, hIn.rep, hAV, ?_⟩
  refine ⟨hAft.os.trans hF.os, hAft.tape.trans hF.tape, hAft.output.trans hF.output, Nat.le_trans hF.size hAft.size, ⟨hIn.X.trans hF.x.1, hF.x.2⟩, fun b hb hA => ?_, fun b hb => (hAft.bs b (Nat.lt_of_lt_of_le hb hF.size)).trans (hF.bs b hb)⟩
  obtain ⟨p1, p2⟩ := hF.blk b hb hA
  have hlt : b < w.heap.size := Nat.lt_of_lt_of_le hb hF.size
  have hnL : ¬ L b := fun hh => by
    obtain ⟨k, hk, hk2⟩ := hL _ hh
    rw [p2] at hk2; cases hk2
  exact ⟨(same b hlt hnL).trans p1, hIn.none b (by rw [old b hlt hnL]; exact p2)⟩
theorem freshN_iff {i : Nat} : ∀ {l : List Nat}, freshN i l = true ↔ i ∉ l
  | [] => by simp [freshN]
  | j :: l => by
    simp only [freshN, Bool.and_eq_true, Bool.not_eq_true', List.mem_cons, not_or, freshN_iff (l := l)]
    refine and_congr_left fun _ => ?_
    constructor
    · intro h e
      subst e
      rw [Nat.beq_refl] at h; cases h
    · intro h
      cases hb : Nat.beq i j with
      | false => rfl
      | true => exact absurd (Nat.eq_of_beq_eq_true hb) h
theorem cellIds_mem {l : List T} {j id : Nat} {p : List (Nat × Nat)} {ep lo len : Nat} : l[j]? = some (.n id p ep lo len) → id ∈ cellIds l := by
  induction l generalizing j with
  | nil => intro h; simp at h
  | cons t l ih =>
    intro h
    cases j with
    | zero => simp at h; subst h; simp [cellIds]
    | succ j =>
      have := ih (by simpa using h)
      cases t <;> simp [cellIds, this]
theorem cellIds_at {l : List T} {id : Nat} : id ∈ cellIds l → ∃ (j : Nat) (p : List (Nat × Nat)) (ep lo len : Nat), l[j]? = some (T.n id p ep lo len) := by
  induction l with
  | nil => intro h; cases h
  | cons t l ih =>
    intro h
    have tl : id ∈ cellIds l → ∃ (j : Nat) (p : List (Nat × Nat)) (ep lo len : Nat), (t :: l)[j]? = some (T.n id p ep lo len) := fun h => by
      obtain ⟨j, p, ep, lo, len, hj⟩ := ih h
      exact ⟨j + 1, p, ep, lo, len, by simpa using hj⟩
    cases t with
    | n i p ep lo len =>
      simp only [cellIds, List.mem_cons] at h
      rcases h with rfl | h
      · exact ⟨0, p, ep, lo, len, rfl⟩
      · exact tl h
    | _ => exact tl h
theorem nodupN_at {l : List T} : nodupN (cellIds l) = true → ∀ {j j' id : Nat} {p p' : List (Nat × Nat)} {ep lo len ep' lo' len' : Nat}, l[j]? = some (.n id p ep lo len) → l[j']? = some (.n id p' ep' lo' len') → j = j' := by
  induction l with
  | nil => intro _ j j' id p p' ep lo len ep' lo' len' h; simp at h
  | cons t l ih =>
    intro hn j j' id p p' ep lo len ep' lo' len' h h'
    have htl : nodupN (cellIds l) = true := by
      cases t with
      | n i p ep lo len => simp only [cellIds, nodupN, Bool.and_eq_true] at hn; exact hn.2
      | _ => exact hn
    have hhd : ∀ {q : List (Nat × Nat)} {a b c : Nat}, t = .n id q a b c → id ∉ cellIds l := by
      rintro q a b c rfl
      simp only [cellIds, nodupN, Bool.and_eq_true] at hn
      exact freshN_iff.1 hn.1
    cases j with
    | zero =>
      cases j' with
      | zero => rfl
      | succ j' =>
        simp at h
        exact absurd (cellIds_mem (by simpa using h')) (hhd h)
    | succ j =>
      cases j' with
      | zero =>
        simp at h'
        exact absurd (cellIds_mem (by simpa using h)) (hhd h')
      | succ j' => exact congrArg (· + 1) (ih htl (by simpa using h) (by simpa using h'))
structure PutR (st st1 : St) (cells ts : List T) : Prop where
  tm : st1.tm = st.tm
  pr : st1.pr = st.pr
  len : st1.ob.length = st.ob.length
  cl : ts.length = cells.length
  oth : ∀ i, i ∉ cellIds cells → st1.obj i = st.obj i
  put : ∀ (j id ep lo len : Nat), cells[j]? = some (.n id [] ep lo len) → ∃ ob rows, st.obj id = some ob ∧ ts[j]? = some (.s true ob.k rows) ∧ st1.obj id = some { ob with rows := rows, ep := ob.ep + 1 }
  plain : ∀ (j id : Nat) (p : List (Nat × Nat)) (ep lo len : Nat), cells[j]? = some (.n id p ep lo len) → p = []
theorem putCells_ok {K : St → Prop} : ∀ {cells ts : List T} {st : St}, nodupN (cellIds cells) = true → (∀ (j id : Nat) (p : List (Nat × Nat)) (ep lo len : Nat), cells[j]? = some (.n id p ep lo len) → p = []) → putCells K st cells ts → ∃ st1, K st1 ∧ PutR st st1 cells ts
  | [], [], st, _, _, h => ⟨st, h, rfl, rfl, rfl, rfl, fun _ _ => rfl, fun j id ep lo len hj => by simp at hj, fun j id p ep lo len hj => by simp at hj⟩
  | [], _ :: _, st, _, _, h => h.elim
  | t :: l, [], st, _, _, h => by
    cases t with
    | n id p ep lo len => cases p <;> exact h.elim
    | _ => exact h.elim
  | t :: l, t' :: l', st, hn, hp, h => by
    have skip : cellIds (t :: l) = cellIds l → (∀ (id : Nat) (ep lo len : Nat), t ≠ .n id [] ep lo len) → putCells K st l l' → ∃ st1, K st1 ∧ PutR st st1 (t :: l) (t' :: l') := by
      intro he hne h
      obtain ⟨st1, hK, h1, h2, h3, h4, h5, h6, h7⟩ := putCells_ok (cells := l) (by rw [he] at hn; exact hn) (fun j id p ep lo len hj => hp (j + 1) id p ep lo len (by simpa using hj)) h
      refine ⟨st1, hK, h1, h2, h3, by simp [h4], by rw [he]; exact h5, fun j id ep lo len hj => ?_, hp⟩
      cases j with
      | zero => simp at hj; exact absurd hj (hne id ep lo len)
      | succ j => simpa using h6 j id ep lo len (by simpa using hj)
    cases t with
    | n id p ep lo len =>
      have := hp 0 id p ep lo len rfl
      subst this
      simp only [putCells] at h
      cases hob : st.obj id with
      | none => rw [hob] at h; exact h.elim
      | some ob =>
        rw [hob] at h
        cases t' with
        | s o k rows =>
          cases o with
          | false => exact h.elim
          | true =>
            obtain ⟨hk, hput⟩ := Tr.get (show Tr (Nat.beq k ob.k) (putCells K { st with ob := st.ob.set id (some { ob with rows := rows, ep := ob.ep + 1 }) } l l') from h)
            have hk := Nat.eq_of_beq_eq_true hk
            subst hk
            simp only [cellIds, nodupN, Bool.and_eq_true] at hn
            have hfr := freshN_iff.1 hn.1
            clear h
            obtain ⟨st1, hK, h1, h2, h3, h4, h5, h6, h7⟩ := putCells_ok (cells := l) (st := { st with ob := st.ob.set id (some { ob with rows := rows, ep := ob.ep + 1 }) }) hn.2 (fun j id p ep lo len hj => hp (j + 1) id p ep lo len (by simpa using hj)) hput
            have hlt := obj_lt hob
            refine ⟨st1, hK, h1, h2, by simpa using h3, by simp [h4], fun i hi => ?_, fun j id' ep' lo' len' hj => ?_, hp⟩
            · simp only [cellIds, List.mem_cons, not_or] at hi
              rw [h5 i hi.2, obj_set_other hi.1]
            · cases j with
              | zero =>
                simp at hj
                obtain ⟨rfl, _⟩ := hj
                exact ⟨ob, rows, hob, rfl, by rw [h5 _ hfr]; exact obj_set_same hlt⟩
              | succ j =>
                obtain ⟨ob', rows', q1, q2, q3⟩ := h6 j id' ep' lo' len' (by simpa using hj)
                have hne : id' ≠ id := fun e => by
                  subst e
                  exact hfr (cellIds_mem (by simpa using hj))
                rw [obj_set_other hne] at q1
                exact ⟨ob', rows', q1, by simpa using q2, q3⟩
        | _ => exact h.elim
    | _ => exact skip rfl (fun _ _ _ _ => by simp) h
theorem turn1 (h : RepSt w g st N pv a) {st1 : St} {id : Nat} {ob : Ob} (hob : st.obj id = some ob) (hbox : ob.box = false) {ad : Option Addr} {c : Nat} {rows' : List (List T)} {g1 : Gh} {S' : Nat → Prop} (hlc : ob.rows.length ≤ c)
    (hc : c = 0 ∨ (ad = some ⟨g.β id, g.ω id + 0 * ob.k, none⟩ ∧ g.lab (g.β id) = some id ∧ g.ω id + (0 + c) * ob.k ≤ g.sz id))
    (e1 : g1.β = g.β) (e2 : g1.ω = g.ω) (e3 : g1.sz = g.sz) (hS1 : c ≠ 0 → ∀ b, S' b → g1.lab b = some id) (hOw : Ow w' g1.A S' (.slice ad ob.rows.length c) (.s true ob.k rows'))
    (hp : c = 0 → g.lab (g.β id) = some id → g1.lab (g.β id) = some id ∧ w'.heap[g.β id]? = w.heap[g.β id]?) (hn : c = 0 → g1.lab (g.β id) = some id → g.lab (g.β id) = some id)
    (hbs : ∀ b, b < w.heap.size → bsz w' b = bsz w b) :
    RepOb w' g1 st1 id { ob with rows := rows', ep := ob.ep + 1 } ∧ (g.lab (g.β id) = some id → g1.lab (g.β id) = some id) := by
  have hRO := h.ob id ob hob
  unfold RepOb at hRO
  rw [hbox] at hRO
  have hlen : rows'.length = ob.rows.length := by
    obtain ⟨x1, c1, e⟩ := hOw.slice
    injection e with _ e2 _
    exact e2.symm
  by_cases hc0 : c = 0
  · subst hc0
    have hr1 : rows' = [] := List.eq_nil_of_length_eq_zero (by omega)
    subst hr1
    refine ⟨?_, fun hlb => (hp rfl hlb).1⟩
    unfold RepOb
    simp only [hbox]
    by_cases hlb : g.lab (g.β id) = some id
    · rcases hRO with ⟨_, hn⟩ | ⟨cs, e, vals', Sub, r1, r2, r3, r4, hM⟩
      · exact absurd hlb hn
      · refine .inr ⟨cs, e, vals', fun _ _ _ => False, by rw [e1, (hp rfl hlb).2]; exact r1, by rw [e1]; exact (hp rfl hlb).1, by rw [e3]; exact r3, by rw [e2]; simp only [List.length_nil]; omega, ⟨fun r hr => (by cases hr), fun i j hi => (by simp at hi), fun i j r t hr => (by simp at hr), fun _ _ _ _ _ hh => hh.elim, fun _ _ _ hh => hh.elim⟩⟩
    · exact .inl ⟨by first | rfl | trivial, fun hh => by rw [e1] at hh; exact hlb (hn rfl hh)⟩
  · rcases hc with hc | ⟨rfl, hlb, hs⟩
    · exact absurd hc hc0
    · rcases hRO with ⟨_, hn⟩ | ⟨cs, e, vals', Sub, r1, r2, r3, r4, hM⟩
      · exact absurd hlb hn
      · rw [← hlen] at hOw
        generalize hvv : Value.slice (some ⟨g.β id, g.ω id + 0 * ob.k, none⟩) rows'.length c = vv at hOw
        cases hOw with
        | nil _ ad => simp at hvv; omega
        | s _ b f c' _ _ vals2 Sub2 cs2 e2' q1 q2 q3 q4 q5 q6 q7 q8 q9 q10 =>
          injection hvv with hv1 hv2 hv3
          injection hv1 with hv1
          injection hv1 with hv1 hv4
          subst hv1
          subst hv3
          subst hv4
          have hb1 : g1.lab (g.β id) = some id := hS1 hc0 _ q1
          refine ⟨?_, fun _ => hb1⟩
          have hsz : cs2.size = cs.size := by
            have := hbs _ (h.lab _ _ hlb).1
            unfold bsz at this
            rw [q2, r1] at this
            simpa using this
          unfold RepOb
          simp only [hbox]
          refine .inr ⟨cs2, e2', vals2, Sub2, by rw [e1]; exact q2, by rw [e1]; exact hb1, by rw [e3, hsz]; exact r3, ?_, q6, fun i j hi hj => ?_, q8, q9, fun i j x hx => ⟨hS1 hc0 _ (q10 i j x hx).1, by rw [e1]; exact (q10 i j x hx).2⟩⟩
          · rw [e2]
            have := Nat.mul_le_mul_right ob.k q4
            omega
          · have := q7 i j hi hj
            rw [e2, ← this]; congr 1; omega
theorem mutCells_get : ∀ {l l' : List T}, mutCells st l = some l' → l'.length = l.length ∧ ∀ (j : Nat) t, l[j]? = some t → ∃ t', l'[j]? = some t' ∧ mutCell st t = some t'
  | [], l', h => by cases h; exact ⟨rfl, fun j t hj => by simp at hj⟩
  | t :: l, l', h => by
    simp only [mutCells] at h
    split at h
    · rename_i t1 l1 h1 h2
      cases h
      obtain ⟨p1, p2⟩ := mutCells_get h2
      refine ⟨by simp [p1], fun j u hj => ?_⟩
      cases j with
      | zero => simp at hj; subst hj; exact ⟨t1, rfl, h1⟩
      | succ j => simpa using p2 j u (by simpa using hj)
    · cases h
theorem mutCell_n {id ep lo len : Nat} {p : List (Nat × Nat)} {t' : T} (h : mutCell st (.n id p ep lo len) = some t') : p = [] ∧ ep = 1 ∧ ∃ ob, st.obj id = some ob ∧ ob.box = false ∧ t' = .s true ob.k ob.rows := by
  cases p with
  | cons x y => simp [mutCell] at h
  | nil =>
    simp only [mutCell] at h
    cases hob : st.obj id with
    | none => rw [hob] at h; cases h
    | some ob =>
      rw [hob] at h
      cases hb : ob.box with
      | true => simp [hb] at h
      | false =>
        cases he : Nat.beq ep 1 with
        | false => simp [hb, he] at h
        | true =>
          simp only [hb, he, cond_true, cond_false, Option.some.injEq] at h
          exact ⟨rfl, Nat.eq_of_beq_eq_true he, ob, rfl, hb, h.symm⟩
/-- A call that turns the slices of a struct in place. -/
theorem muG_ok (h : RepSt w g st N pv a) (hF : Fr w0 A0 w g) {P : Program} (hG : GOk P w0 (A0.G w0)) {F : Nat → List AV → Out → Prop} (hFn : ∀ f as out, F f as out → FnOk P f as out) {f : Nat} {args : List AV} {vals : Array Value}
    (hl : vals.toList.length = args.length) (hr : ∀ (j : Nat) x u, args[j]? = some x → vals.toList[j]? = some u → RepAV w g st x u) {K : St → AV → Prop} {j : Nat} {cells : List T} (hj : args[j]? = some (.agg cells)) (hK : muG F f args j st K cells (mutCells st cells)) :
    (∃ fn, P.funcs[f]? = some fn ∧ (fn.name == "runtime.NumGoroutine") = false ∧ fn.body.isSome = true) ∧
    Calls P f vals w fun e w' => ∃ v st' av g', e = .returned v ∧ K st' av ∧ RepSt w' g' st' N pv a ∧ RepAV w' g' st' av v ∧ Fr w0 A0 w' g' := by
  obtain ⟨vj, hvj⟩ : ∃ vj, vals.toList[j]? = some vj := by
    have := (List.getElem?_eq_some_iff.1 hj).1
    exact ⟨_, List.getElem?_eq_getElem (by omega)⟩
  have hrep := hr j _ _ hj hvj
  cases hm : mutCells st cells with
  | none => rw [hm] at hK; exact hK.elim
  | some ts =>
    rw [hm] at hK
    unfold muG at hK
    simp only at hK
    split at hK
    rotate_left
    · exact hK.elim
    rename_i as has
    obtain ⟨as', ts', res, hFa, hFz, hK⟩ := hK
    obtain ⟨hb, hK⟩ := hK.get
    simp only [Bool.and_eq_true] at hb
    obtain ⟨hnd, hnr⟩ := hb
    obtain ⟨cs, rfl, hcs, hce⟩ := hrep
    obtain ⟨htl, hmc⟩ := mutCells_get hm
    have hpl : ∀ (j id : Nat) (p : List (Nat × Nat)) (ep lo len : Nat), cells[j]? = some (.n id p ep lo len) → p = [] ∧ ep = 1 ∧ ∃ ob, st.obj id = some ob ∧ ob.box = false ∧ ts[j]? = some (.s true ob.k ob.rows) := by
      intro j id p ep lo len hj
      obtain ⟨t', h1, h2⟩ := hmc j _ hj
      obtain ⟨q1, q2, ob, q3, q4, rfl⟩ := mutCell_n h2
      exact ⟨q1, q2, ob, q3, q4, h1⟩
    obtain ⟨st1, hK1, R⟩ := putCells_ok hnd (fun j id p ep lo len hj => (hpl j id p ep lo len hj).1) hK
    -- what a slice's value is
    have hval : ∀ (j id lo len : Nat), cells[j]? = some (.n id [] 1 lo len) → ∃ ob ad c, st.obj id = some ob ∧ ob.box = false ∧ ts[j]? = some (.s true ob.k ob.rows) ∧ cs[j]? = some (.slice ad ob.rows.length c) ∧ len = ob.rows.length ∧ ob.rows.length ≤ c ∧ fit (.slice ad ob.rows.length c) = true ∧
        (c = 0 ∨ (ad = some ⟨g.β id, g.ω id + 0 * ob.k, none⟩ ∧ g.lab (g.β id) = some id ∧ g.ω id + (0 + c) * ob.k ≤ g.sz id)) := by
      intro j id lo len hj
      obtain ⟨_, _, ob, hob, hbox, hts⟩ := hpl j id [] 1 lo len hj
      have hlt : j < cs.size := by have := (List.getElem?_eq_some_iff.1 hj).1; omega
      have hu : cs[j]? = some cs[j] := by simp [hlt]
      obtain ⟨hf, hr1⟩ := hce j _ _ hj hu
      obtain ⟨_, hr2⟩ := (show RepL w g st (.n id [] 1 lo len) cs[j] from hr1)
      obtain ⟨_, hwh, ad, c, e, hlc, hlr, hc⟩ := hr2 ob hob
      obtain ⟨rfl, rfl⟩ := hwh rfl
      rw [e] at hu hf
      exact ⟨ob, ad, c, hob, hbox, hts, hu, rfl, hlc, hf, hc⟩
    let Sub : Nat → Nat → Prop := fun j b => ∃ (id lo len : Nat) (ad : Option Addr) (c : Nat), cells[j]? = some (.n id [] 1 lo len) ∧ cs[j]? = some (.slice ad len c) ∧ c ≠ 0 ∧ g.lab b = some id
    let L : Nat → Prop := fun b => ∃ j, Sub j b
    let I : Nat → Prop := fun i => i ∈ cellIds cells
    have hL : ∀ b, L b → ∃ i, I i ∧ g.lab b = some i := fun b ⟨j, id, lo, len, ad, c, h1, _, _, h2⟩ => ⟨id, cellIds_mem h1, h2⟩
    have aN : ∀ b, g.A b → ¬ L b := fun b hb hh => by
      obtain ⟨i, _, h2⟩ := hL b hh
      have h1 := hb.1; rw [h2] at h1; cases h1
    have hOw : ∀ (j : Nat) t u, ts[j]? = some t → cs[j]? = some u → Ow w (Sees w g true) (Sub j) u t := by
      intro j t' u hjt hju
      have hlt : j < cells.length := by have := (List.getElem?_eq_some_iff.1 hjt).1; omega
      obtain ⟨t, hjc⟩ : ∃ t, cells[j]? = some t := ⟨_, List.getElem?_eq_getElem hlt⟩
      obtain ⟨t2, h1, h2⟩ := hmc j t hjc
      rw [hjt] at h1; cases h1
      obtain ⟨hf, hr1⟩ := hce j t u hjc hju
      cases t with
      | v x =>
        cases h2
        have e : u = x := hr1
        subst e
        exact .v _ _ hf
      | s o k rows =>
        cases o with
        | false =>
          cases h2
          exact .f _ _ _ _ (Fz.mono (fun b hb hlt => ⟨⟨hlt, fun _ => hb⟩, rfl⟩) (show Fz w g.A u (.s false k rows) from hr1))
        | true =>
          obtain ⟨rfl, a', rfl⟩ := (show RepL w g st (.s true k rows) u from hr1)
          cases h2
          exact .nil _ _ _
      | n id p ep lo len =>
        obtain ⟨rfl, rfl, _⟩ := mutCell_n h2
        obtain ⟨ob, ad, c, hob, hbox, hts, hu, rfl, hlc, hfit, hc⟩ := hval j id lo len hjc
        rw [hjt] at hts; cases hts
        rw [hju] at hu; cases hu
        by_cases hc0 : c = 0
        · subst hc0
          have hr0 : ob.rows = [] := List.eq_nil_of_length_eq_zero (by omega)
          rw [hr0]
          exact .nil _ _ _
        · rcases hc with hc | ⟨rfl, hlb, hs⟩
          · exact absurd hc hc0
          · have hRO := h.ob id ob hob
            unfold RepOb at hRO
            rw [hbox] at hRO
            rcases hRO with ⟨_, hn⟩ | ⟨cs1, e, vals', Sub1, r1, r2, r3, r4, hM⟩
            · exact absurd hlb hn
            · have hO : Ow w g.A (fun x => g.lab x = some id) (.slice (some ⟨g.β id, g.ω id + 0 * ob.k, none⟩) ob.rows.length c) (.s true ob.k ob.rows) := by
                refine .s _ _ _ c ob.k _ vals' Sub1 cs1 e r2 r1 ?_ hlc hfit hM.hk (fun i j hi hj => ?_) hM.ht hM.hd hM.hs
                · rw [r3]; simp only [Nat.zero_add, Nat.zero_mul, Nat.add_zero] at hs ⊢; exact hs
                · have := hM.hv i j hi hj
                  rw [← this]; congr 1; omega
              exact hO.mono (fun b hb hlt => ⟨⟨hlt, fun _ => hb⟩, rfl⟩) (fun b hb _ => ⟨⟨id, lo, _, _, c, hjc, hju, hc0, hb⟩, rfl⟩)
      | _ => simp [mutCell] at h2
    have hdis : ∀ j j' x, Sub j x → Sub j' x → j = j' := by
      rintro j j' x ⟨id, lo, len, ad, c, h1, _, _, h2⟩ ⟨id', lo', len', ad', c', h1', _, _, h2'⟩
      rw [h2] at h2'; cases h2'
      exact nodupN_at hnd h1 h1'
    have hmm : ResRep1 w (Sees w g true) (fun b => (if L b then some 0 else (none : Option Nat)) = some 0) (.agg ts) (.agg cs) :=
      ⟨cs, rfl, by rw [htl]; exact hcs, Sub, hOw, hdis, fun j x hx => if_pos ⟨j, hx⟩⟩
    obtain ⟨_, q2⟩ := muArgs_ok (L := L) h hmm has hl hr hvj hnr
    have hin : ∀ i, I i → ∃ ob ob1, st.obj i = some ob ∧ st1.obj i = some ob1 ∧ ob1.box = ob.box ∧ ob1.k = ob.k ∧ ob.ep < ob1.ep := by
      intro i hi
      obtain ⟨j, p, ep, lo, len, hjc⟩ := cellIds_at hi
      obtain ⟨rfl, rfl, _⟩ := hpl j i p ep lo len hjc
      obtain ⟨ob, rows, r1, r2, r3⟩ := R.put j i 1 lo len hjc
      exact ⟨ob, _, r1, r3, rfl, rfl, Nat.lt_succ_self _⟩
    obtain ⟨p1, p2⟩ := mu_gen (I := I) (L := L) h hF hG hFn hL hvj has hFa hFz (Av := Sees w g true) (fun b hb => ⟨hb.1, aN b (hb.2 rfl)⟩) (fun b hb hlt => ⟨hlt, fun _ => hb⟩) (fun b hb => hb.2 rfl) q2 R.tm R.pr R.len R.oth hin (by
      intro w' lab' hAft hRes
      obtain ⟨cs', e, hsz, Sub', hO', hd', hs'⟩ := hRes
      cases e
      have hlen : ∀ (j id lo len : Nat) ob rows, cells[j]? = some (.n id [] 1 lo len) → st.obj id = some ob → ts'[j]? = some (.s true ob.k rows) → rows.length = ob.rows.length := by
        intro j id lo len ob rows hjc hob hts'
        obtain ⟨ob2, ad, c, hob2, _, _, hu, _⟩ := hval j id lo len hjc
        rw [hob] at hob2; cases hob2
        obtain ⟨x, c', e⟩ := (hO' j _ _ hts' hu).slice
        injection e with _ e _
        exact e.symm
      refine ⟨fun i b => ∃ (j lo len : Nat) (ad : Option Addr) (c : Nat), cells[j]? = some (.n i [] 1 lo len) ∧ cs[j]? = some (.slice ad len c) ∧ c ≠ 0 ∧ Sub' j b, ?_, ?_, ?_, ?_⟩
      · rintro i b ⟨j, lo, len, ad, c, h1, _, _, h2⟩
        exact ⟨cellIds_mem h1, hs' j b h2⟩
      · rintro i i' b ⟨j, lo, len, ad, c, h1, _, _, h2⟩ ⟨j', lo', len', ad', c', h1', _, _, h2'⟩
        have := hd' _ _ _ h2 h2'
        subst this
        rw [h1] at h1'; cases h1'; rfl
      · intro i ob ob1 hi hob hob1
        obtain ⟨j, p, ep, lo, len, hjc⟩ := cellIds_at hi
        obtain ⟨rfl, rfl, _⟩ := hpl j i p ep lo len hjc
        obtain ⟨ob', rows, r1, r2, r3⟩ := R.put j i 1 lo len hjc
        rw [hob] at r1; cases r1
        rw [hob1] at r3; cases r3
        exact hlen j i lo len ob rows hjc hob r2
      · intro g1 e1 e2 e3 hown hold hback hA hA' hbs i ob1 hi hob1
        obtain ⟨j, p, ep, lo, len, hjc⟩ := cellIds_at hi
        obtain ⟨rfl, rfl, _⟩ := hpl j i p ep lo len hjc
        obtain ⟨ob, rows, r1, r2, r3⟩ := R.put j i 1 lo len hjc
        rw [hob1] at r3; cases r3
        obtain ⟨ob2, ad, c, hob2, hbox, _, hu, rfl, hlc, _, hc⟩ := hval j i lo len hjc
        rw [r1] at hob2; cases hob2
        have hnL : c = 0 → ∀ b, g.lab b = some i → ¬ L b := by
          rintro rfl b hb ⟨j', id', lo', len', ad', c', h1, h2, h3, h4⟩
          rw [hb] at h4; cases h4
          have := nodupN_at hnd hjc h1
          subst this
          rw [hu] at h2
          cases h2
          exact h3 rfl
        refine turn1 h r1 hbox hlc hc e1 e2 e3 (fun hc0 b hb => hown i b ⟨j, lo, _, ad, c, hjc, hu, hc0, hb⟩) ?_ (fun hc0 hlb => ?_) (fun hc0 hlb => ?_) hbs
        · exact (hO' j _ _ r2 hu).mono (fun b hb _ => ⟨by
            rcases hb with hb | hb
            · exact hA b (hb.2 rfl) hb.1
            · exact hA' b hb, rfl⟩) (fun b hb _ => ⟨hb, rfl⟩)
        · have := hold _ (h.lab _ _ hlb).1 (hnL hc0 _ hlb)
          exact ⟨by rw [this.1]; exact hlb, this.2⟩
        · rcases hback _ i hi hlb with ⟨j', lo', len', ad', c', h1, h2, h3, _⟩ | ⟨_, _, h3⟩
          · have := nodupN_at hnd hjc h1
            subst this
            rw [hu] at h2
            cases h2
            exact absurd hc0 h3
          · exact h3)
    refine ⟨p1, p2.mono ?_⟩
    rintro e w' ⟨v, he, hall⟩
    obtain ⟨st', av, g', r1, r2, r3, r4⟩ := hall K hK1
    exact ⟨v, st', av, g', he, r1, r2, r3, r4⟩

/-- A call to which an argument is given away. -/
theorem muK_ok (h : RepSt w g st N pv a) (hF : Fr w0 A0 w g) {P : Program} (hG : GOk P w0 (A0.G w0)) {F : Nat → List AV → Out → Prop} (hFn : ∀ f as out, F f as out → FnOk P f as out) {f : Nat} {args : List AV} {vals : Array Value}
    (hl : vals.toList.length = args.length) (hr : ∀ (j : Nat) x u, args[j]? = some x → vals.toList[j]? = some u → RepAV w g st x u) {K : St → AV → Prop} {j : Nat} (hK : muK F f args j st K args[j]?) :
    (∃ fn, P.funcs[f]? = some fn ∧ (fn.name == "runtime.NumGoroutine") = false ∧ fn.body.isSome = true) ∧
    Calls P f vals w fun e w' => ∃ v st' av g', e = .returned v ∧ K st' av ∧ RepSt w' g' st' N pv a ∧ RepAV w' g' st' av v ∧ Fr w0 A0 w' g' := by
  unfold muK at hK
  split at hK
  rotate_left
  · exact hK.elim
  rename_i id ep lo len hj
  obtain ⟨vj, hvj⟩ : ∃ vj, vals.toList[j]? = some vj := by
    have := (List.getElem?_eq_some_iff.1 hj).1
    exact ⟨_, List.getElem?_eq_getElem (by omega)⟩
  have hrep := hr j _ _ hj hvj
  split at hK
  rotate_left
  · exact hK.elim
  rename_i ob hob
  obtain ⟨hb, hK2⟩ := hK.get
  clear hK
  simp only [Bool.and_eq_true, Bool.not_eq_true'] at hb
  have hep := Nat.eq_of_beq_eq_true hb.2
  subst hep
  split at hK2
  rotate_left
  · exact hK2.elim
  rename_i as has
  obtain ⟨as', res, hFa, hFz, hK2⟩ := hK2
  obtain ⟨hnr, hK⟩ := hK2.get
  have hext : extCell st (.n id [] 1 lo len) = some (.s true ob.k ob.rows, st.kill id) := by
    simp only [extCell, hob, hb.1, cond_false]
    rfl
  obtain ⟨kl, L, hO, hLs⟩ := extCell_ok h hext hrep
  have hL : ∀ b, L b → g.lab b = some id := by
    intro b hb
    obtain ⟨i, h1, ⟨ob', h2⟩, h3⟩ := hLs b hb
    by_cases he : i = id
    · subst he; exact h1
    · exfalso
      have : (st.kill id).obj i = st.obj i := by
        unfold St.kill St.obj
        simp [List.getElem?_set, Ne.symm he]
      rw [this, h2] at h3
      cases h3
  have h' := h.kills kl
  have hCn := hFn f as' _ hFa
  have aN : ∀ b, g.A b → ¬ L b := fun b hb hh => by have h1 := hb.1; rw [hL b hh] at h1; cases h1
  have hm : ResRep1 w (Sees w g true) (fun b => (if L b then some 0 else (none : Option Nat)) = some 0) (.one (.s true ob.k ob.rows)) vj :=
    (hO.mono (fun b hb hlt => ⟨⟨hlt, fun _ => hb⟩, rfl⟩) (S' := fun b => (if L b then some 0 else (none : Option Nat)) = some 0) (fun b hb _ => ⟨if_pos hb, rfl⟩))
  obtain ⟨_, q2⟩ := muArgs_ok (L := L) h' hm has hl (fun j x u hj hu => (hr j x u hj hu).keeps (Keeps.kills kl)) hvj hnr
  let lab : Nat → Option Nat := fun b => if L b then some 0 else none
  have labL : ∀ b, L b → lab b = some 0 := fun b hb => if_pos hb
  have labN : ∀ b, ¬ L b → lab b = none := fun b hb => if_neg hb
  have hAl : ∀ b, Sees w g true b → b < w.heap.size ∧ lab b = none := fun b hb => ⟨hb.1, labN b (aN b (hb.2 rfl))⟩
  refine ⟨hCn.fn, (hCn.run w (Sees w g true) lab vals (hFz.args q2) hAl (fun b i hb => ?_) ((hF.gok hG).mono fun b hb hlt => ⟨⟨hlt, fun _ => hb⟩, hlt, rfl⟩)).mono ?_⟩
  · by_cases hh : L b
    · exact (h.lab b id (hL b hh)).1
    · rw [labN b hh] at hb; cases hb
  rintro e w' ⟨v, lab', rfl, hAft, hRes, _⟩
  obtain ⟨n, hn⟩ : ∃ n, n = as'.length := ⟨_, rfl⟩
  rw [← hn] at hRes
  have hx : ∀ b, g.X b → b < w.heap.size := fun b hb => by
    have := (hF.x.2 b (by rw [← hF.x.1]; exact hb)).1
    have := hF.size
    omega
  let g1 := g.mut w.heap.size n (st.kill id).ob.length id L False lab'
  have old : ∀ b, b < w.heap.size → ¬ L b → g1.lab b = g.lab b := fun b hb hb2 => if_pos ⟨hb, hb2⟩
  have new : ∀ b, ¬ (b < w.heap.size ∧ ¬ L b) → g1.lab b = if lab' b = some n then some (st.kill id).ob.length else none := fun b hb => by
    simp only [g1, Gh.mut]
    rw [if_neg hb, if_neg (fun h => h.1)]
  have same : ∀ b, b < w.heap.size → ¬ L b → w'.heap[b]? = w.heap[b]? := fun b hb hb2 => (hAft.blk b hb (labN b hb2)).1
  have notL : ∀ i, i ≠ id → ∀ b, g.lab b = some i → ¬ L b := fun i hi b hb hh => by rw [hL b hh] at hb; cases hb; exact hi rfl
  have hne : ∀ i ob', (st.kill id).obj i = some ob' → i ≠ id := by
    rintro i ob' ho rfl
    have : (st.kill i).obj i = none := by
      unfold St.kill St.obj
      simp [obj_lt hob]
    rw [this] at ho; cases ho
  have hKp : Keeps w g (st.kill id) w' g1 (st.kill id).pad := by
    refine ⟨fun b hb hlt => ⟨⟨by rw [old b hlt (aN b hb)]; exact hb.1, hb.2⟩, same b hlt (aN b hb)⟩, by simp [St.pad], fun i ob' hid ho => ?_, fun i ob' hid ho ob1 h1 => ?_, fun i ob' hid ho => ⟨rfl, rfl, rfl, fun hlb => ?_⟩⟩
    · rw [obj_pad] at ho; exact ⟨ob', ho, rfl, rfl, rfl⟩
    · rw [obj_pad, h1] at ho
      cases ho
      exact ⟨Nat.le_refl _, fun _ _ hl2 => same _ (h.lab _ _ hl2).1 (notL i (hne i _ h1) _ hl2)⟩
    · rw [obj_pad] at ho
      rw [old _ (h.lab _ _ hlb).1 (notL i (hne i _ ho) _ hlb)]; exact hlb
  have hRp : RepSt w' g1 (st.kill id).pad N pv a := by
    refine ⟨h'.size, h'.defers, fun k => (h'.tm k).keeps hKp, fun i ob' ho => ?_, fun b i hb => ?_, h'.pr.1, fun i t u hi hu => (h'.pr.2 i t u hi hu).keeps hKp⟩
    · rw [obj_pad] at ho
      have hid := obj_lt ho
      have hni := hne i _ ho
      refine (h'.ob i ob' ho).keeps hKp ⟨rfl, rfl, rfl⟩ (fun x hx hlt => ⟨by rw [old x hlt (notL i hni x hx)]; exact hx, same x hlt (notL i hni x hx)⟩) (fun hn2 hh => ?_)
      have hh : g1.lab (g.β i) = some i := hh
      by_cases hb : g.β i < w.heap.size ∧ ¬ L (g.β i)
      · rw [old _ hb.1 hb.2] at hh; exact hn2 hh
      · rw [new _ hb] at hh
        split at hh
        · cases hh; omega
        · cases hh
    · by_cases hlt : b < w.heap.size ∧ ¬ L b
      · rw [old b hlt.1 hlt.2] at hb
        have := h'.lab b i hb
        have := hAft.size
        exact ⟨by omega, by simp [St.pad]; omega⟩
      · rw [new b hlt] at hb
        split at hb
        · rename_i hlb
          cases hb
          exact ⟨hAft.lt b _ hlb, by simp [St.pad]⟩
        · cases hb
  have hpool : Pool g1 (st.kill id).pad (fun b => lab' b = some n) := by
    intro b hb
    have hnot : ¬ (b < w.heap.size ∧ ¬ L b) := fun hlt => by have := (hAft.blk b hlt.1 (labN b hlt.2)).2; rw [hb] at this; cases this
    refine ⟨(st.kill id).ob.length, by rw [new b hnot, if_pos hb], ?_⟩
    rw [obj_pad]
    simp [St.obj]
  have newA : ∀ b, NewF w.heap.size lab lab' b → g1.A b := fun b hb => by
    obtain ⟨hge, hnone⟩ := hb
    have h9 : ¬ (b < w.heap.size ∧ ¬ L b) := by
      rintro ⟨q1, q2⟩
      rcases hge with hge | hge
      · omega
      · exact hge (labN b q2)
    refine ⟨by rw [new b h9, hnone]; simp, fun hX => ?_⟩
    rcases hge with hge | hge
    · have := hx b hX; omega
    · by_cases hh : L b
      · exact hF.nx (hL b hh) hX
      · exact hge (labN b hh)
  obtain ⟨st2, av2, g2, hK2, hIn, hAV⟩ := inRes_ok hRp (A := Out.A ⟨res, [.one .h], [], false⟩ w.heap.size (Sees w g true) lab lab') (S := fun b => lab' b = some n) (fun b hb => by
    rcases hb with ⟨ha, _⟩ | hb
    · cases ha
    · exact newA b hb) hpool hRes hK
  refine ⟨v, st2, av2, g2, rfl, hK2, hIn.rep, hAV, ?_⟩
  refine ⟨hAft.os.trans hF.os, hAft.tape.trans hF.tape, hAft.output.trans hF.output, Nat.le_trans hF.size hAft.size, ⟨hIn.X.trans hF.x.1, hF.x.2⟩, fun b hb hA => ?_, fun b hb => (hAft.bs b (Nat.lt_of_lt_of_le hb hF.size)).trans (hF.bs b hb)⟩
  obtain ⟨p1, p2⟩ := hF.blk b hb hA
  have hlt : b < w.heap.size := Nat.lt_of_lt_of_le hb hF.size
  have hnL : ¬ L b := fun hh => by rw [hL b hh] at p2; cases p2
  exact ⟨(same b hlt hnL).trans p1, hIn.none b (by rw [old b hlt hnL]; exact p2)⟩

theorem flatOw {A S : Nat → Prop} (hA : ∀ b, g.A b → b < w.heap.size → A b) {t : T} {u : Value} (hf : t.flatB = true) (h : RepT w g st t u) : Ow w A S u t := by
  cases t with
  | v x =>
    have e : u = x := h.2
    subst e
    exact .v _ _ h.1
  | s o k rows =>
    cases o with
    | true => cases hf
    | false => exact .f _ _ _ _ (Fz.mono (fun b hb hlt => ⟨hA b hb hlt, rfl⟩) (show Fz w g.A u (.s false k rows) from h.2))
  | _ => cases hf
theorem flatRep {A S : Nat → Prop} (hA : ∀ b, A b → b < w.heap.size → g.A b) {t : T} {u : Value} (hf : t.flatB = true) (h : Ow w A S u t) : RepT w g st t u := by
  refine ⟨h.one, ?_⟩
  cases h with
  | v => rfl
  | f S x k rows hz => exact hz.mono (fun b hb hlt => ⟨hA b hb hlt, rfl⟩)
  | _ => cases hf
theorem roArgs_mono {A A' : Nat → Prop} {lab : Nat → Option Nat} {k : Nat} : ∀ {l l' : List AV} {vs : List Value}, roArgs st l = some l' → (∀ b, A b → A' b) → ArgsRep w A lab k l' vs → ArgsRep w A' lab k l' vs := by
  intro l l' vs he hA h
  have hp := roArgs_plain he
  clear he
  induction l' generalizing vs with
  | nil => cases vs with
    | nil => exact trivial
    | cons => exact h.elim
  | cons x l ih =>
    cases vs with
    | nil =>
      exfalso
      cases x with
      | one t => cases t <;> exact h.elim
      | tup m => rcases m with _ | ⟨x, _ | ⟨y, m⟩⟩ <;> exact h.elim
      | _ => exact h.elim
    | cons v vs =>
      have hx := hp x (by simp)
      have hl : PlainAs l := fun y hy => hp y (by simp [hy])
      cases x with
      | one t =>
        cases t with
        | b row => exact absurd rfl (hx.2 row)
        | _ => exact ⟨RoRep.mono' hA h.1, ih h.2 hl⟩
      | tup m => exact absurd rfl (hx.1 m)
      | _ => exact ⟨RoRep.mono' hA h.1, ih h.2 hl⟩
theorem OwC.monoA {A A' S : Nat → Prop} {l : List T} {cs : Array Value} (hA : ∀ b, A b → A' b) (h : OwC w A S l cs) : OwC w A' S l cs := by
  obtain ⟨q1, Sub, q2, q3, q4⟩ := h
  exact ⟨q1, Sub, fun j t u hj hu => (q2 j t u hj hu).mono (fun b hb _ => ⟨hA b hb, rfl⟩) (fun b hb _ => ⟨hb, rfl⟩), q3, q4⟩
theorem OwBox.monoA {A A' S : Nat → Prop} {l : List T} {v : Value} (hA : ∀ b, A b → A' b) (h : OwBox w A S l v) : OwBox w A' S l v := by
  obtain ⟨b, cs, e, q1, q2, q3, q4⟩ := h
  exact ⟨b, cs, e, q1, q2, q3, q4.monoA hA⟩
theorem ResRep1.monoA {A A' S : Nat → Prop} {x : AV} {v : Value} (hA : ∀ b, A b → A' b) (h : ResRep1 w A S x v) : ResRep1 w A' S x v := by
  cases x with
  | one t =>
    cases t with
    | b row => exact OwBox.monoA hA h
    | _ => exact Ow.mono (fun b hb _ => ⟨hA b hb, rfl⟩) h (fun b hb _ => ⟨hb, rfl⟩)
  | agg l =>
    obtain ⟨cs, rfl, q⟩ := h
    exact ⟨cs, rfl, q.monoA hA⟩
  | _ => exact h.elim
theorem muArgsV_ok (h : RepSt w g st N pv a) {Av : Nat → Prop} (hA2 : ∀ b, Sees w g true b → Av b) {L : Nat → Prop} {m : AV} {v0 : Value} (hm : ResRep1 w Av (fun b => (if L b then some 0 else (none : Option Nat)) = some 0) m v0) : ∀ {j : Nat} {l l' : List AV} {vs : List Value},
    muArgs st (.tup [m]) j l = some l' → vs.length = l.length → (∀ (i : Nat) x u, l[i]? = some x → vs[i]? = some u → RepAV w g st x u) → vs[j]? = some v0 → noRefX j l = true →
    l'.length = l.length ∧ ArgsRep w Av (fun b => if L b then some 0 else none) 0 l' vs
  | _, [], l', vs, he, _, _, _, _ => by simp [muArgs] at he
  | 0, x :: l, l', [], he, hl, _, _, _ => by simp at hl
  | 0, x :: l, l', v :: vs, he, hl, hr, hv, hn => by
    simp only [muArgs] at he
    split at he
    · rename_i l1 h1
      cases he
      obtain ⟨q1, q2⟩ := roArgs_ok h (al := true) (lab := fun b => if L b then some 0 else none) (k := 1) h1 (by simpa using hl) (fun j t u hj hu => hr (j + 1) t u (by simpa using hj) (by simpa using hu)) (fun _ => hn)
      have : v = v0 := by simpa using hv
      subst this
      exact ⟨by simp [q1], hm, roArgs_mono h1 hA2 q2⟩
    · cases he
  | j + 1, x :: l, l', [], he, hl, _, _, _ => by simp at hl
  | j + 1, x :: l, l', v :: vs, he, hl, hr, hv, hn => by
    simp only [muArgs] at he
    split at he
    · rename_i x1 l1 h1 h2
      cases he
      simp only [noRefX, Bool.and_eq_true] at hn
      obtain ⟨q1, q2⟩ := muArgsV_ok h hA2 hm h2 (by simpa using hl) (fun j t u hj hu => hr (j + 1) t u (by simpa using hj) (by simpa using hu)) (by simpa using hv) hn.2
      exact ⟨by simp [q1], .cons_ro ((roAV_ok h h1 (hr 0 x v rfl rfl) (fun _ => hn.1)).mono' hA2) q2⟩
    · cases he
/-- The ghost behind such a call; L: what is handed on; Fr: what is frozen ahead of it; F2: behind it. -/
noncomputable def Gh.mutV (g : Gh) (sz b0 id p : Nat) (L Fr F2 : Nat → Prop) (lab' : Nat → Option Nat) : Gh :=
  { g with lab := fun b => if b < sz ∧ ¬ L b ∧ ¬ Fr b then g.lab b else if b = b0 then some id else if lab' b = none ∨ F2 b then none else some p }

theorem holes_get {n j : Nat} {t : T} (h : (List.replicate n T.h)[j]? = some t) : t = .h := by
  rw [List.getElem?_replicate] at h
  split at h
  · cases h; rfl
  · cases h
theorem cellsN_len : ∀ (l : List T) (m : Nat), (cellsN m l).length = l.length
  | [], _ => rfl
  | t :: l, m => by
    cases t with
    | s o k rows => cases o <;> simp [cellsN, cellsN_len l]
    | _ => simp [cellsN, cellsN_len l]

theorem extM_ok : ∀ {l l' : List T} {st st' : St} {us : Nat → Value} {vs : List Value} {i : Nat} {ks : List Bool}, RepSt w g st N pv a → extM st us i ks l = some (l', st') → vs.length = l.length → (∀ (j : Nat) u, vs[j]? = some u → us (i + j) = u) →
    (∀ (j : Nat) t u, l[j]? = some t → vs[j]? = some u → RepT w g st t u) →
    Kills st st' ∧ l'.length = l.length ∧ ∃ Sub : Nat → Nat → Prop, (∀ (j : Nat) t u, l'[j]? = some t → vs[j]? = some u → Ow w g.A (Sub j) u t) ∧ (∀ j j' x, Sub j x → Sub j' x → j = j') ∧ ∀ j x, Sub j x → Struck g st st' x
  | [], l', st, st', us, vs, i, ks, h, he, hl, hu, hr => by
    have he : some ([], st) = some (l', st') := by cases ks <;> exact he
    cases he
    exact ⟨.refl st, rfl, fun _ _ => False, fun j t u ht => by simp at ht, fun _ _ _ h => h.elim, fun _ _ h => h.elim⟩
  | t :: l, l', st, st', us, [], i, ks, h, he, hl, hu, hr => by simp at hl
  | t :: l, l', st, st', us, u :: vs, i, ks, h, he, hl, hu, hr => by
    have hu' : ∀ (j : Nat) v, vs[j]? = some v → us (i + 1 + j) = v := fun j v hj => by
      have := hu (j + 1) v (by simpa using hj)
      rw [← this]; congr 1; omega
    have opq : (∃ l1, extM st us (i + 1) ks.tail l = some (l1, st') ∧ l' = .v (us i) :: l1) → Kills st st' ∧ l'.length = (t :: l).length ∧ ∃ Sub : Nat → Nat → Prop, (∀ (j : Nat) t' u', l'[j]? = some t' → (u :: vs)[j]? = some u' → Ow w g.A (Sub j) u' t') ∧ (∀ j j' x, Sub j x → Sub j' x → j = j') ∧ ∀ j x, Sub j x → Struck g st st' x := by
      rintro ⟨l1, h1, rfl⟩
      obtain ⟨k, hlen, Sub, hO, hd, hS⟩ := extM_ok h h1 (by simpa using hl) hu' (fun j t u hj hu => hr (j + 1) t u (by simpa using hj) (by simpa using hu))
      refine ⟨k, by simp [hlen], fun j => match j with | 0 => fun _ => False | j + 1 => Sub j, fun j t' u' hj hv => ?_, fun j j' x hx hx' => ?_, fun j x hx => ?_⟩
      · cases j with
        | zero =>
          simp at hj hv
          subst hj hv
          have e := hu 0 u rfl
          simp only [Nat.add_zero] at e
          rw [e]
          exact .v _ _ (hr 0 t u rfl rfl).1
        | succ j => exact hO j t' u' (by simpa using hj) (by simpa using hv)
      · cases j with
        | zero => exact hx.elim
        | succ j => cases j' with
          | zero => exact hx'.elim
          | succ j' => exact congrArg (· + 1) (hd j j' x hx hx')
      · cases j with
        | zero => exact hx.elim
        | succ j => exact hS j x hx
    have cell : (∃ t1 st1 l1, extCell st t = some (t1, st1) ∧ extM st1 us (i + 1) ks.tail l = some (l1, st') ∧ l' = t1 :: l1) → Kills st st' ∧ l'.length = (t :: l).length ∧ ∃ Sub : Nat → Nat → Prop, (∀ (j : Nat) t' u', l'[j]? = some t' → (u :: vs)[j]? = some u' → Ow w g.A (Sub j) u' t') ∧ (∀ j j' x, Sub j x → Sub j' x → j = j') ∧ ∀ j x, Sub j x → Struck g st st' x := by
      rintro ⟨t1, st1, l1, h1, h2, rfl⟩
      obtain ⟨k1, S0, hO, hS⟩ := extCell_ok h h1 (hr 0 t u rfl rfl)
      obtain ⟨k2, hlen, Sub, hO2, hd, hS2⟩ := extM_ok (h.kills k1) h2 (by simpa using hl) hu' (fun j t u hj hu => (hr (j + 1) t u (by simpa using hj) (by simpa using hu)).keeps (Keeps.kills k1))
      refine ⟨k1.trans k2, by simp [hlen], fun j => match j with | 0 => S0 | j + 1 => Sub j, fun j t u hj hu => ?_, fun j j' x hx hx' => ?_, fun j x hx => ?_⟩
      · cases j with
        | zero => simp at hj hu; subst hj hu; exact hO
        | succ j => exact hO2 j t u (by simpa using hj) (by simpa using hu)
      · cases j with
        | zero =>
          cases j' with
          | zero => rfl
          | succ j' =>
            obtain ⟨i, q1, _, q2⟩ := hS x hx
            obtain ⟨i', q3, ⟨ob, q4⟩, _⟩ := hS2 j' x hx'
            rw [q1] at q3; cases q3
            rw [q2] at q4; cases q4
        | succ j =>
          cases j' with
          | zero =>
            obtain ⟨i, q1, _, q2⟩ := hS x hx'
            obtain ⟨i', q3, ⟨ob, q4⟩, _⟩ := hS2 j x hx
            rw [q1] at q3; cases q3
            rw [q2] at q4; cases q4
          | succ j' => exact congrArg (· + 1) (hd j j' x hx hx')
      · cases j with
        | zero => exact (hS x hx).mono1 k2
        | succ j => exact (hS2 j x hx).mono2 k1
    have split : ∀ ks' : List Bool, (match extCell st t with
        | some (t, st) => match extM st us (i + 1) ks' l with
          | some (l, st) => some (t :: l, st)
          | none => none
        | none => none) = some (l', st') → ∃ t1 st1 l1, extCell st t = some (t1, st1) ∧ extM st1 us (i + 1) ks' l = some (l1, st') ∧ l' = t1 :: l1 := by
      intro ks' he
      cases h1 : extCell st t with
      | none => rw [h1] at he; cases he
      | some x =>
        obtain ⟨t1, st1⟩ := x
        rw [h1] at he
        simp only at he
        cases h2 : extM st1 us (i + 1) ks' l with
        | none => rw [h2] at he; cases he
        | some y =>
          obtain ⟨l1, st2⟩ := y
          rw [h2] at he
          cases he
          exact ⟨t1, st1, l1, rfl, h2, rfl⟩
    cases ks with
    | nil => exact cell (split [] he)
    | cons k ks =>
      cases k with
      | true =>
        refine opq ?_
        have he : (match extM st us (i + 1) ks l with | some (l, st) => some (.v (us i) :: l, st) | none => none) = some (l', st') := he
        cases h1 : extM st us (i + 1) ks l with
        | none => rw [h1] at he; cases he
        | some x =>
          obtain ⟨l1, st1⟩ := x
          rw [h1] at he
          cases he
          exact ⟨l1, h1, rfl⟩
      | false => exact cell (split ks he)
theorem mergeM_len : ∀ (l' l : List T) (ks : List Bool), (mergeM ks l l').length = l'.length
  | [], l, ks => by cases l <;> cases ks <;> rfl
  | t' :: l', [], ks => by cases ks <;> rfl
  | t' :: l', t :: l, ks => by
    cases ks with
    | nil => simp [mergeM, mergeM_len l' l]
    | cons k ks => cases k <;> simp [mergeM, mergeM_len l' l]
theorem mergeM_get : ∀ {l' l : List T} {ks : List Bool} {j : Nat} {t : T}, l.length = l'.length → (mergeM ks l l')[j]? = some t → (ks[j]? = some true ∧ l[j]? = some t) ∨ (ks[j]? ≠ some true ∧ l'[j]? = some t)
  | [], l, ks, j, t, hl, h => by
    have : l = [] := by simpa using hl
    subst this
    cases ks <;> simp [mergeM] at h
  | t' :: l', [], ks, j, t, hl, h => by simp at hl
  | t' :: l', t0 :: l, ks, j, t, hl, h => by
    have hl' : l.length = l'.length := by simpa using hl
    cases ks with
    | nil =>
      cases j with
      | zero => exact .inr ⟨by simp, by simpa [mergeM] using h⟩
      | succ j =>
        rcases mergeM_get (ks := []) hl' (show (mergeM [] l l')[j]? = some t by simpa [mergeM] using h) with ⟨q, _⟩ | ⟨_, q⟩
        · simp at q
        · exact .inr ⟨by simp, by simpa using q⟩
    | cons k ks =>
      cases j with
      | zero =>
        cases k with
        | true => exact .inl ⟨rfl, by simpa [mergeM] using h⟩
        | false => exact .inr ⟨by simp, by simpa [mergeM] using h⟩
      | succ j =>
        have h2 : (mergeM ks l l')[j]? = some t := by cases k <;> simpa [mergeM] using h
        rcases mergeM_get hl' h2 with ⟨q1, q2⟩ | ⟨q1, q2⟩
        · exact .inl ⟨by simpa using q1, by simpa using q2⟩
        · exact .inr ⟨by simpa using q1, by simpa using q2⟩
theorem opqM_get {us : Nat → Value} : ∀ {l : List T} {ks : List Bool} {i j : Nat} {t : T}, opqM us i ks l → ks[j]? = some true → l[j]? = some t → t = .v (us (i + j))
  | [], ks, i, j, t, _, _, h => by simp at h
  | t0 :: l, [], i, j, t, _, h, _ => by simp at h
  | t0 :: l, k :: ks, i, j, t, h, hk, hj => by
    cases j with
    | zero =>
      simp at hk hj
      subst hk hj
      exact h.1
    | succ j =>
      have h2 : opqM us (i + 1) ks l := by cases k <;> first | exact h.2 | exact h
      have := opqM_get h2 (by simpa using hk) (show l[j]? = some t by simpa using hj)
      rw [this]; congr 2; omega

/-- A call to which a variable is handed on by its address. -/
theorem muV_ok (h : RepSt w g st N pv a) (hF : Fr w0 A0 w g) {P : Program} (hG : GOk P w0 (A0.G w0)) {F : Nat → List AV → Out → Prop} (hFn : ∀ f as out, F f as out → FnOk P f as out) {f : Nat} {args : List AV} {vals : Array Value}
    (hl : vals.toList.length = args.length) (hr : ∀ (j : Nat) x u, args[j]? = some x → vals.toList[j]? = some u → RepAV w g st x u) {K : St → AV → Prop} {j id ep : Nat} (hj : args[j]? = some (.one (.p id [] ep 0 0))) (hK : muV F f args j st K id (st.obj id)) :
    (∃ fn, P.funcs[f]? = some fn ∧ (fn.name == "runtime.NumGoroutine") = false ∧ fn.body.isSome = true) ∧
    Calls P f vals w fun e w' => ∃ v st' av g', e = .returned v ∧ K st' av ∧ RepSt w' g' st' N pv a ∧ RepAV w' g' st' av v ∧ Fr w0 A0 w' g' := by
  obtain ⟨vj, hvj⟩ : ∃ vj, vals.toList[j]? = some vj := by
    have := (List.getElem?_eq_some_iff.1 hj).1
    exact ⟨_, List.getElem?_eq_getElem (by omega)⟩
  have hrep := hr j _ _ hj hvj
  cases hob : st.obj id with
  | none => rw [hob] at hK; exact hK.elim
  | some ob =>
    rw [hob] at hK
    simp only [muV] at hK
    obtain ⟨ks, hK⟩ := hK
    obtain ⟨csv, hcsv⟩ : ∃ c : Array Value, c = (match w.heap[g.β id]? with | some (.cells cs _ _) => cs | _ => #[]) := ⟨_, rfl⟩
    have hbx0 : ob.box = true := by
      have hK := hK (fun _ => .bool true) (fun _ => rfl)
      unfold muV0 at hK
      split at hK
      rotate_left
      · exact hK.elim
      obtain ⟨ts', hfx, hK⟩ := hK
      unfold muV1 at hK
      split at hK
      rotate_left
      · exact hK.elim
      obtain ⟨as', row', row2, res, al, hFa, hFz, hfx2, hK⟩ := hK
      have := hK.get.1
      simp only [Bool.and_eq_true] at this
      exact this.1
    have hRO0 := h.ob id ob hob
    unfold RepOb at hRO0
    rw [hbx0] at hRO0
    obtain ⟨cs0, e0, row0, _, _, z3, _, _, _, z7⟩ := hRO0
    have hcs0 : cs0 = csv := by rw [hcsv, z3]
    obtain ⟨us, hus⟩ : ∃ us : Nat → Value, us = fun i => if i < csv.size then csv.getD i undef else .bool true := ⟨_, rfl⟩
    have hus1 : ∀ (j : Nat) u, csv.toList[j]? = some u → us j = u := by
      intro j u hj
      have hlt : j < csv.size := by have := (List.getElem?_eq_some_iff.1 hj).1; simpa using this
      rw [hus]
      simp only [hlt, if_true]
      have : csv[j]? = some u := by simpa using hj
      simp [Array.getD, hlt]
      rw [Array.getElem?_eq_getElem hlt] at this
      exact Option.some.inj this
    have hK := hK us (fun i => by
      by_cases hlt : i < csv.size
      · have h1 := hus1 i csv[i] (by simp [hlt])
        rw [h1]
        rw [hcs0] at z7
        have hrl : i < row0.length := by have := z7.1; omega
        exact (z7.2 i row0[i] csv[i] (by simp [hrl]) (by simp [hlt])).1
      · rw [hus]; simp only [hlt, if_false]; rfl)
    unfold muV0 at hK
    split at hK
    rotate_left
    · exact hK.elim
    rename_i ts st1 hext
    obtain ⟨ts', hfx, hK⟩ := hK
    unfold muV1 at hK
    split at hK
    rotate_left
    · exact hK.elim
    rename_i as has
    obtain ⟨as', row', row2, res, al, hFa, hFz, hfx2, hK⟩ := hK
    obtain ⟨hb, hopq, hK⟩ := hK.get
    simp only [Bool.and_eq_true] at hb
    obtain ⟨hbox, hnr, hlen⟩ := hb
    have hlen := Nat.eq_of_beq_eq_true hlen
    unfold muV2 at hK
    obtain ⟨α, y0, cv, rf, e1, e2, hK⟩ := hK
    have hK := hK y0 rfl _ rfl
    rw [forceL_eq, ← e1, ← e2] at hK
    obtain ⟨hid, hr2⟩ := (show RepL w g st (.p id [] ep 0 0) vj from hrep.2)
    obtain ⟨hv, hlb, _⟩ := hr2 ob hob
    have hRO := h.ob id ob hob
    unfold RepOb at hRO
    rw [hbox] at hRO
    obtain ⟨cs, e, row, q1, q2, q3, q4, q5, q6, q7⟩ := hRO
    rw [q1] at hext hlen hK
    have hrow : rowAt [row] 0 = row := rfl
    rw [hrow] at hext hlen hK
    have hcs : csv = cs := by rw [hcsv, q3]
    rw [hcs] at hus1
    have hv : vj = .pointer (some ⟨g.β id, 0, none⟩) := by rw [hv, q5]; simp
    subst hv
    have hβ := (h.lab _ _ hlb).1
    have k0 := Kills.kill st id
    have h0 := h.kills k0
    obtain ⟨k1, hl0, Sub0, hO0, hd0, hS0⟩ := extM_ok (vs := cs.toList) h0 hext (by simpa using q7.1) (fun j u hj => by rw [Nat.zero_add]; exact hus1 j u hj) (fun i t u hi hu => (q7.2 i t u hi (by simpa using hu)).keeps (Keeps.kills k0))
    have kk := k0.trans k1
    obtain ⟨hl1a, Sub, hSub, hO⟩ := hfx.ow (us := cs.toList) (by rw [hl0]; simpa using q7.1) hO0
    have hl1 : ts'.length = row.length := by rw [hl1a, hl0]
    have hd : ∀ j j' x, Sub j x → Sub j' x → j = j' := fun j j' x hx hx' => hd0 j j' x (hSub j x hx) (hSub j' x hx')
    have hS := fun j x (hx : Sub j x) => hS0 j x (hSub j x hx)
    obtain ⟨FF, hFF⟩ : ∃ FF : Nat → Prop, ∀ b, FF b ↔ ∃ i, Sub0 i b ∧ ¬ Sub i b := ⟨_, fun _ => Iff.rfl⟩
    have h1 := h0.kills k1
    have hkid : (st.kill id).obj id = none := by simp [St.kill, St.obj, obj_lt hob]
    have h1id : st1.obj id = none := by
      cases ho : st1.obj id with
      | none => rfl
      | some ob' => have := k1.obj id ob' ho; rw [hkid] at this; cases this
    obtain ⟨L, hL⟩ : ∃ L : Nat → Prop, ∀ b, L b ↔ (b = g.β id ∨ ∃ j, Sub j b) := ⟨_, fun _ => Iff.rfl⟩
    have hLi : ∀ b, L b → ∃ i, g.lab b = some i ∧ st1.obj i = none := by
      intro b hb
      rcases (hL b).1 hb with rfl | ⟨j, hj⟩
      · exact ⟨id, hlb, h1id⟩
      · obtain ⟨i, p1, _, p3⟩ := hS j b hj
        exact ⟨i, p1, p3⟩
    have hne0 : ∀ j b, Sub0 j b → b ≠ g.β id := by
      intro j b hb he
      obtain ⟨i, p1, ⟨ob', p2⟩, p3⟩ := hS0 j b hb
      rw [he, hlb] at p1; cases p1
      rw [hkid] at p2; cases p2
    have hne : ∀ j b, Sub j b → b ≠ g.β id := fun j b hb => hne0 j b (hSub j b hb)
    have hFi : ∀ b, FF b → ∃ i, g.lab b = some i ∧ st1.obj i = none := by
      intro b hb
      obtain ⟨j, hj, _⟩ := (hFF b).1 hb
      obtain ⟨i, p1, _, p3⟩ := hS0 j b hj
      exact ⟨i, p1, p3⟩
    have hFL : ∀ b, FF b → ¬ L b := by
      intro b hb hh
      obtain ⟨j, hj, hn⟩ := (hFF b).1 hb
      rcases (hL b).1 hh with rfl | ⟨j', hj'⟩
      · exact hne0 j _ hj rfl
      · have := hd0 _ _ _ hj (hSub _ _ hj')
        subst this
        exact hn hj'
    have hFn0 : ∀ b, FF b → b ≠ g.β id := fun b hb => by
      obtain ⟨j, hj, _⟩ := (hFF b).1 hb
      exact hne0 j b hj
    have hLs : ∀ b, L b → b < w.heap.size := fun b hb => by
      obtain ⟨i, h2, _⟩ := hLi b hb
      exact (h.lab b i h2).1
    have aN : ∀ b, g.A b → ¬ L b := fun b hb hh => by
      obtain ⟨i, h2, _⟩ := hLi b hh
      have h1 := hb.1; rw [h2] at h1; cases h1
    have notL : ∀ i ob', st1.obj i = some ob' → ∀ b, g.lab b = some i → ¬ L b := fun i ob' ho b hb hh => by
      obtain ⟨i', p1, p2⟩ := hLi b hh
      rw [hb] at p1; cases p1
      rw [ho] at p2; cases p2
    have notF : ∀ i ob', st1.obj i = some ob' → ∀ b, g.lab b = some i → ¬ FF b := fun i ob' ho b hb hh => by
      obtain ⟨i', p1, p2⟩ := hFi b hh
      rw [hb] at p1; cases p1
      rw [ho] at p2; cases p2
    have aF : ∀ b, g.A b → ¬ FF b := fun b hb hh => by
      obtain ⟨i, h2, _⟩ := hFi b hh
      have h1 := hb.1; rw [h2] at h1; cases h1
    have hFs : ∀ b, FF b → b < w.heap.size := fun b hb => by
      obtain ⟨i, h2, _⟩ := hFi b hb
      exact (h.lab b i h2).1
    obtain ⟨Av, hAv⟩ : ∃ Av : Nat → Prop, ∀ b, Av b ↔ (Sees w g true b ∨ FF b) := ⟨_, fun _ => Iff.rfl⟩
    have hm : ResRep1 w Av (fun b => (if L b then some 0 else (none : Option Nat)) = some 0) (.one (.b ts')) (.pointer (some ⟨g.β id, 0, none⟩)) := by
      refine ⟨g.β id, cs, e, rfl, q3, if_pos ((hL _).2 (.inl rfl)), by rw [hl1]; exact q7.1, Sub, fun j t u hj hu => ?_, hd, fun j b hb => ?_⟩
      · exact (hO j t u hj (by simpa using hu)).mono (fun b hb hlt => ⟨(hAv b).2 (hb.imp (fun hb => ⟨hlt, fun _ => hb⟩) (hFF b).2), rfl⟩) (fun b hb _ => ⟨hb, rfl⟩)
      · exact ⟨if_pos ((hL b).2 (.inr ⟨j, hb⟩)), hne j b hb⟩
    obtain ⟨_, r2⟩ := muArgsV_ok (L := L) h1 (fun b hb => (hAv b).2 (.inl hb)) hm has hl (fun j x u hj hu => (hr j x u hj hu).keeps (Keeps.kills kk)) hvj hnr
    have hCn := hFn f as' _ hFa
    let lab : Nat → Option Nat := fun b => if L b then some 0 else none
    have labL : ∀ b, L b → lab b = some 0 := fun b hb => if_pos hb
    have labN : ∀ b, ¬ L b → lab b = none := fun b hb => if_neg hb
    have hAl : ∀ b, Av b → b < w.heap.size ∧ lab b = none := fun b hb => by
      rcases (hAv b).1 hb with hb | hb
      · exact ⟨hb.1, labN b (aN b (hb.2 rfl))⟩
      · exact ⟨hFs b hb, labN b (hFL b hb)⟩
    refine ⟨hCn.fn, (hCn.run w Av lab vals (hFz.args r2) hAl (fun b i hb => ?_) ((hF.gok hG).mono fun b hb hlt => ⟨(hAv b).2 (.inl ⟨hlt, fun _ => hb⟩), hlt, rfl⟩)).mono ?_⟩
    · by_cases hh : L b
      · exact hLs b hh
      · rw [labN b hh] at hb; cases hb
    rintro e' w' ⟨v, lab', rfl, hAft, hRes, hOut⟩
    obtain ⟨n, hn⟩ : ∃ n, n = as'.length := ⟨_, rfl⟩
    rw [← hn] at hRes
    have hn0 : n ≠ 0 := by
      have := muArgs_at has
      have := (List.getElem?_eq_some_iff.1 this).1
      rw [hn, hFz.len]; omega
    have hOw := muOuts1 has hFz hvj hOut
    obtain ⟨b, cs', e2, hp, hh, hlb', hsz0', Sub1, hO1, hd1, hS1⟩ := (show OwBox w' _ _ row' _ from hOw)
    injection hp with hp; injection hp with hp; injection hp with hp
    subst hp
    obtain ⟨hl2a, Sub', hSub', hO'⟩ := hfx2.ow (us := cs'.toList) (by simpa using hsz0') (fun j t u hj hu => hO1 j t u hj (by simpa using hu))
    have hsz' : cs'.size = row2.length := by rw [hl2a]; exact hsz0'
    have hd' : ∀ j j' x, Sub' j x → Sub' j' x → j = j' := fun j j' x hx hx' => hd1 j j' x (hSub' j x hx) (hSub' j' x hx')
    have hS' := fun j x (hx : Sub' j x) => hS1 j x (hSub' j x hx)
    obtain ⟨F2, hF2⟩ : ∃ F2 : Nat → Prop, ∀ b, F2 b ↔ ∃ i, Sub1 i b ∧ ¬ Sub' i b := ⟨_, fun _ => Iff.rfl⟩
    have hF20 : ∀ b, F2 b → lab' b = some 0 ∧ b ≠ g.β id := fun b hb => by
      obtain ⟨j, hj, _⟩ := (hF2 b).1 hb
      exact hS1 j b hj
    let p := st.ob.length
    let g1 := g.mutV w.heap.size (g.β id) id p L FF F2 lab'
    have old : ∀ b, b < w.heap.size → ¬ L b → ¬ FF b → g1.lab b = g.lab b := fun b hb hb2 hb3 => if_pos ⟨hb, hb2, hb3⟩
    have notOld : ∀ b, lab' b ≠ none → ¬ (b < w.heap.size ∧ ¬ L b) := by
      rintro b hb ⟨h1, h2⟩
      exact hb (hAft.blk b h1 (labN b h2)).2
    have g1b : g1.lab (g.β id) = some id := by
      show (if g.β id < w.heap.size ∧ ¬ L (g.β id) ∧ ¬ FF (g.β id) then g.lab (g.β id) else if g.β id = g.β id then some id else if lab' (g.β id) = none ∨ F2 (g.β id) then none else some p) = some id
      rw [if_neg (fun h => h.2.1 ((hL _).2 (.inl rfl))), if_pos rfl]
    have new : ∀ b, ¬ (b < w.heap.size ∧ ¬ L b ∧ ¬ FF b) → b ≠ g.β id → g1.lab b = if lab' b = none ∨ F2 b then none else some p := fun b hb h2 => by
      show (if b < w.heap.size ∧ ¬ L b ∧ ¬ FF b then g.lab b else if b = g.β id then some id else if lab' b = none ∨ F2 b then none else some p) = _
      rw [if_neg hb, if_neg h2]
    have same : ∀ b, b < w.heap.size → ¬ L b → w'.heap[b]? = w.heap[b]? := fun b hb hb2 => (hAft.blk b hb (labN b hb2)).1
    have hx : ∀ b, g.X b → b < w.heap.size := fun b hb => by
      have := hF.x.2 b (by rw [← hF.x.1]; exact hb)
      have := hF.size
      omega
    have gA : ∀ b, g.A b → b < w.heap.size → g1.A b := fun b hb hlt => ⟨by rw [old b hlt (aN b hb) (aF b hb)]; exact hb.1, hb.2⟩
    have FA : ∀ b, FF b → g1.A b := fun b hb => by
      obtain ⟨i, h2, _⟩ := hFi b hb
      refine ⟨?_, hF.nx h2⟩
      rw [new b (fun h => h.2.2 hb) (hFn0 b hb), if_pos (.inl (hAft.blk b (hFs b hb) (labN b (hFL b hb))).2)]
    have nX : ∀ b, (w.heap.size ≤ b ∨ L b) → ¬ g.X b := fun b hb hX => by
      rcases hb with hb | hb
      · have := hx b hX; omega
      · obtain ⟨i, h2, _⟩ := hLi b hb
        exact hF.nx h2 hX
    have newA : ∀ b, NewF w.heap.size lab lab' b → g1.A b := fun b hb => by
      obtain ⟨hge, hnone⟩ := hb
      have h9 : w.heap.size ≤ b ∨ L b := hge.imp (fun h => h) (fun h => Classical.byContradiction fun hh => h (labN b hh))
      have hbn : b ≠ g.β id := fun he => by rw [he, hlb'] at hnone; cases hnone
      refine ⟨?_, nX b h9⟩
      rw [new b (by rintro ⟨h1, h2, _⟩; exact h9.elim (fun h9 => by omega) (fun h9 => h2 h9)) hbn, if_pos (.inl hnone)]
    have F2A : ∀ b, F2 b → g1.A b := fun b hb => by
      obtain ⟨h3, h4⟩ := hF20 b hb
      have h5 := notOld b (by rw [h3]; simp)
      have h9 : w.heap.size ≤ b ∨ L b := by
        by_cases hlt : b < w.heap.size
        · exact .inr (Classical.byContradiction fun hh => h5 ⟨hlt, hh⟩)
        · exact .inl (by omega)
      refine ⟨?_, nX b h9⟩
      rw [new b (fun h => h5 ⟨h.1, h.2.1⟩) h4, if_pos (.inr hb)]
    obtain ⟨obH, hobH⟩ : ∃ x : Ob, x = { ob with rows := [List.replicate row.length .h], ep := ob.ep + 1 } := ⟨_, rfl⟩
    let sA : St := { st1 with ob := st1.ob.set id (some obH) ++ [none] }
    have hl1' : st1.ob.length = st.ob.length := kk.len
    have sAlen : sA.ob.length = st.ob.length + 1 := by simp [sA, hl1']
    have sAid : sA.obj id = some obH := by
      simp [sA, St.obj, List.getElem?_append, hl1', hid]
    have sAo : ∀ i, i ≠ id → sA.obj i = st1.obj i := by
      intro i hi
      simp only [sA, St.obj, List.getElem?_append, List.length_set, hl1']
      by_cases hlt : i < st.ob.length
      · rw [if_pos hlt, List.getElem?_set_ne (Ne.symm hi)]
      · rw [if_neg hlt, List.getElem?_eq_none (l := st1.ob) (by omega)]
        cases h9 : i - st.ob.length with
        | zero => rfl
        | succ m => rfl
    have hKp : Keeps w g st w' g1 sA := by
      refine ⟨fun b hb hlt => ⟨gA b hb hlt, same b hlt (aN b hb)⟩, by omega, fun i ob' hi ho => ?_, fun i ob' hi ho ob2 h2 => ?_, fun i ob' hi ho => ⟨rfl, rfl, rfl, fun hlb2 => ?_⟩⟩
      · by_cases he : i = id
        · subst he
          rw [sAid] at ho; cases ho
          exact ⟨ob, hob, by rw [hobH], by rw [hobH], by rw [hobH, q1]; rfl⟩
        · rw [sAo i he] at ho
          exact ⟨ob', kk.obj i ob' ho, rfl, rfl, rfl⟩
      · by_cases he : i = id
        · subst he
          rw [sAid] at ho; cases ho
          rw [hob] at h2; cases h2
          subst hobH
          exact ⟨Nat.le_succ _, fun e => absurd e (by simp)⟩
        · rw [sAo i he] at ho
          have h3 := kk.obj i ob' ho
          rw [h3] at h2; cases h2
          exact ⟨Nat.le_refl _, fun _ _ hl2 => same _ (h.lab _ _ hl2).1 (notL i _ ho _ hl2)⟩
      · by_cases he : i = id
        · subst he; exact g1b
        · rw [sAo i he] at ho
          rw [old _ (h.lab _ _ hlb2).1 (notL i _ ho _ hlb2) (notF i _ ho _ hlb2)]; exact hlb2
    have hszb : cs'.size = g.sz id := by
      have := hAft.bs _ hβ
      unfold bsz at this
      rw [hh, q3] at this
      rw [← q6]
      simpa using this
    have hRp : RepSt w' g1 sA N pv a := by
      refine ⟨h.size, h.defers, fun i => ?_, fun i ob' ho => ?_, fun b i hb => ?_, ?_, fun i t u hi hu => ?_⟩
      · show RepAV w' g1 sA (look st1.tm i) _
        rw [kk.tm]; exact (h.tm i).keeps hKp
      · by_cases he : i = id
        · subst he
          rw [sAid] at ho; cases ho
          unfold RepOb
          have hbx : obH.box = true := by rw [hobH]; exact hbox
          simp only [hbx]
          refine ⟨cs', e2, List.replicate row.length .h, by rw [hobH], by rw [hobH, q2]; simp, hh, g1b, q5, hszb, by rw [hsz', hlen]; simp, fun j t u hj hu => ?_⟩
          have := holes_get hj
          subst this
          refine ⟨?_, trivial⟩
          have hjl : j < row'.length := by rw [← hsz0']; exact (Array.getElem?_eq_some_iff.1 hu).1
          exact (hO1 j row'[j] u (by simp [hjl]) hu).one
        · rw [sAo i he] at ho
          refine (h.ob i ob' (kk.obj i ob' ho)).keeps hKp ⟨rfl, rfl, rfl⟩ (fun x hx hlt => ?_) (fun hne2 hh2 => ?_)
          · exact ⟨by rw [old x hlt (notL i _ ho x hx) (notF i _ ho x hx)]; exact hx, same x hlt (notL i _ ho x hx)⟩
          · have hh2 : g1.lab (g.β i) = some i := hh2
            by_cases hb : g.β i < w.heap.size ∧ ¬ L (g.β i) ∧ ¬ FF (g.β i)
            · rw [old _ hb.1 hb.2.1 hb.2.2] at hh2; exact hne2 hh2
            · by_cases h3 : g.β i = g.β id
              · rw [h3, g1b] at hh2; cases hh2; exact he rfl
              · rw [new _ hb h3] at hh2
                split at hh2
                · cases hh2
                · cases hh2
                  have := obj_lt ho
                  simp only [p] at this
                  omega
      · by_cases hlt : b < w.heap.size ∧ ¬ L b ∧ ¬ FF b
        · rw [old b hlt.1 hlt.2.1 hlt.2.2] at hb
          have := h.lab b i hb
          have := hAft.size
          exact ⟨by omega, by omega⟩
        · by_cases h3 : b = g.β id
          · subst h3
            rw [g1b] at hb; cases hb
            have := hAft.size
            exact ⟨by omega, by omega⟩
          · rw [new _ hlt h3] at hb
            split at hb
            · cases hb
            · rename_i hnn
              cases hb
              cases hl9 : lab' b with
              | none => exact absurd (.inl hl9) hnn
              | some x => exact ⟨hAft.lt b x hl9, by simp only [p]; omega⟩
      · show pv.length = st1.pr.length
        rw [kk.pr]; exact h.pr.1
      · have hi : st1.pr[i]? = some t := hi
        rw [kk.pr] at hi
        exact (h.pr.2 i t u hi hu).keeps hKp
    have sAp : sA.obj p = none := by
      simp only [sA, St.obj, p, List.getElem?_append, List.length_set, hl1']
      simp
    have hpool : ∀ S : Nat → Prop, (∀ b, S b → lab' b ≠ none ∧ b ≠ g.β id ∧ ¬ F2 b) → Pool g1 sA S := by
      intro S hS b hb
      obtain ⟨h3, h4, h5⟩ := hS b hb
      exact ⟨p, by rw [new b (fun h => notOld b h3 ⟨h.1, h.2.1⟩) h4, if_neg (fun h => h.elim h3 h5)], sAp⟩
    have hA0 : ∀ b, Av b → g1.A b := by
      intro b hb
      rcases (hAv b).1 hb with hb | hb
      · exact gA b (hb.2 rfl) hb.1
      · exact FA b hb
    have hA1 : ∀ b, ((Av b ∨ NewF w.heap.size lab lab' b) ∨ ∃ i, Sub1 i b ∧ ¬ Sub' i b) → g1.A b := by
      rintro b ((hb | hb) | hb)
      · exact hA0 b hb
      · exact newA b hb
      · exact F2A b ((hF2 b).2 hb)
    have nF2 : ∀ j b, Sub' j b → ¬ F2 b := fun j b hb hh => by
      obtain ⟨i, h3, h4⟩ := (hF2 b).1 hh
      have := hd1 _ _ _ h3 (hSub' j b hb)
      subst this
      exact h4 hb
    obtain ⟨g2, hIn, hTl, hT⟩ := inCells_ok (A := fun b => (Av b ∨ NewF w.heap.size lab lab' b) ∨ ∃ i, Sub1 i b ∧ ¬ Sub' i b) (l := row2) (cs := cs'.toList) (Sub := Sub') hRp hA1
      (fun j => hpool _ (fun b hb => ⟨by rw [(hS' j b hb).1]; simp, (hS' j b hb).2, nF2 j b hb⟩)) (fun j t u hj hu => hO' j t u hj (by simpa using hu)) hd' (by simpa using hsz') (inCells_N row2 sA)
    let sB : St := { sA with ob := sA.ob ++ obsN row2 }
    have sBid : sB.obj id = some obH := by rw [← sAid]; exact hIn.obj id (by omega)
    obtain ⟨e5, e6, e7, e8⟩ := hIn.keeps.gh id obH (by omega) sBid
    have g2b : g2.lab (g2.β id) = some id := by rw [e5]; exact e8 g1b
    have hInr : RepSt w' g2 sB N pv a := hIn.rep
    have hC := hInr.turn (w' := w') (ob' := { obH with rows := [mergeM ks row (cellsN sA.ob.length row2)] }) sBid rfl rfl (by rw [hobH]; rfl) ⟨Nat.le_refl _, fun _ => by rw [hobH]; exact hbox⟩ g2b (fun _ _ => rfl) rfl (fun hkC => by
      unfold RepOb
      have hbx : obH.box = true := by rw [hobH]; exact hbox
      simp only [hbx] at hkC ⊢
      refine ⟨cs', e2, mergeM ks row (cellsN sA.ob.length row2), rfl, by rw [mergeM_len, cellsN_len, hlen, ← q2, hobH], by rw [e5]; exact hh, g2b, by rw [e6]; exact q5, by rw [e7]; exact hszb, by rw [mergeM_len, cellsN_len]; exact hsz', fun j t u hj hu => ?_⟩
      rcases mergeM_get (by rw [cellsN_len, hlen]) hj with ⟨m1, m2⟩ | ⟨m1, m2⟩
      · have hjl : j < row2.length := by rw [← hsz']; exact (Array.getElem?_eq_some_iff.1 hu).1
        have hv2 := opqM_get hopq m1 (show row2[j]? = some row2[j] by simp [hjl])
        rw [Nat.zero_add] at hv2
        have ho := hO' j row2[j] u (by simp [hjl]) (by simpa using hu)
        rw [hv2] at ho
        have hjc : j < cs.size := by rw [q7.1, ← hlen]; exact hjl
        have e9 := hus1 j cs[j] (by simp [hjc])
        have hu2 : u = cs[j] := by rw [← e9]; cases ho; rfl
        exact ((((q7.2 j t cs[j] m2 (by simp [hjc])).keeps hKp).keeps hIn.keeps).keeps hkC) |> (hu2 ▸ ·)
      · exact (hT j t u m2 (by simpa using hu)).keeps hkC)
    let sC : St := { sB with ob := sB.ob.set id (some { obH with rows := [mergeM ks row (cellsN sA.ob.length row2)] }) }
    have hsC : sC = { st1 with ob := (st1.ob.set id (some { ob with rows := [mergeM ks row (cellsN (st1.ob.length + 1) row2)], ep := ob.ep + 1 })) ++ none :: obsN row2 } := by
      have e9 : sA.ob.length = st1.ob.length + 1 := by omega
      simp only [sC, sB, e9]
      simp only [sA, hobH]
      congr 1
      rw [List.set_append_left _ _ (by simp [hl1']; omega), List.set_append_left _ _ (by simp [hl1', hid])]
      simp
    have poolC : Pool g2 sC (fun b => lab' b = some n) := by
      intro b hb
      have hb0 : b ≠ g.β id := fun he => by
        rw [he, hlb'] at hb; cases hb; exact hn0 rfl
      have hbn : lab' b ≠ none := by rw [hb]; simp
      have h5 : g1.lab b = some p := by
        rw [new b (fun h => notOld b hbn ⟨h.1, h.2.1⟩) hb0, if_neg]
        rintro (h6 | h6)
        · exact hbn h6
        · have h7 := (hF20 b h6).1
          rw [hb] at h7; cases h7; exact hn0 rfl
      refine ⟨p, ?_, ?_⟩
      · rw [hIn.out b (fun ⟨j, hj⟩ => by
          have h6 : lab' b = some 0 := (hS' j b hj).1
          rw [hb] at h6; cases h6; exact hn0 rfl)]
        exact h5
      · have : sC.obj p = sB.obj p := obj_set_other (by simp only [p]; omega)
        rw [this]
        have : sB.obj p = sA.obj p := hIn.obj p (by simp only [p]; omega)
        rw [this]; exact sAp
    rw [← hsC] at hK
    obtain ⟨st2, av2, g3, hK2, hIn2, hAV⟩ := inRes_ok hC (A := Out.A ⟨res, [.one (.b row')], [], al⟩ w.heap.size Av lab lab') (S := fun b => lab' b = some n) (fun b hb => by
      rcases hb with ⟨_, hb⟩ | hb
      · exact hIn.A (hA0 b hb)
      · exact hIn.A (newA b hb)) poolC hRes hK
    refine ⟨v, st2, av2, g3, rfl, hK2, hIn2.rep, hAV, ?_⟩
    refine ⟨hAft.os.trans hF.os, hAft.tape.trans hF.tape, hAft.output.trans hF.output, Nat.le_trans hF.size hAft.size, ⟨hIn2.X.trans (hIn.X.trans hF.x.1), hF.x.2⟩, fun b hb hA => ?_, fun b hb => (hAft.bs b (Nat.lt_of_lt_of_le hb hF.size)).trans (hF.bs b hb)⟩
    obtain ⟨p1, p2⟩ := hF.blk b hb hA
    have hlt : b < w.heap.size := Nat.lt_of_lt_of_le hb hF.size
    have hnL : ¬ L b := fun hh => by
      obtain ⟨i, h3, _⟩ := hLi b hh
      rw [p2] at h3; cases h3
    have hnF : ¬ FF b := fun hh => by
      obtain ⟨i, h3, _⟩ := hFi b hh
      rw [p2] at h3; cases h3
    exact ⟨(same b hlt hnL).trans p1, hIn2.none b (hIn.none b (by rw [old b hlt hnL hnF]; exact p2))⟩

/-- A call that turns one of its arguments in place. -/
theorem callM_ok (h : RepSt w g st N pv a) (hF : Fr w0 A0 w g) {P : Program} (hG : GOk P w0 (A0.G w0)) {F : Nat → List AV → Out → Prop} (hFn : ∀ f as out, F f as out → FnOk P f as out) {f : Nat} {args : List AV} {vals : Array Value}
    (hl : vals.toList.length = args.length) (hr : ∀ (j : Nat) x u, args[j]? = some x → vals.toList[j]? = some u → RepAV w g st x u) {K : St → AV → Prop} (hK : callM F f args st K) :
    (∃ fn, P.funcs[f]? = some fn ∧ (fn.name == "runtime.NumGoroutine") = false ∧ fn.body.isSome = true) ∧
    Calls P f vals w fun e w' => ∃ v st' av g', e = .returned v ∧ K st' av ∧ RepSt w' g' st' N pv a ∧ RepAV w' g' st' av v ∧ Fr w0 A0 w' g' := by
  obtain ⟨j, hK⟩ := hK
  unfold muT at hK
  split at hK
  · rename_i id ep lo len hj
    obtain ⟨vj, hvj⟩ : ∃ vj, vals.toList[j]? = some vj := by
      have := (List.getElem?_eq_some_iff.1 hj).1
      exact ⟨_, List.getElem?_eq_getElem (by omega)⟩
    have hrep := hr j _ _ hj hvj
    split at hK
    rotate_left
    · exact hK.elim
    rename_i ob hob
    obtain ⟨hb, hK⟩ := hK.get
    simp only [Bool.and_eq_true, Bool.not_eq_true'] at hb
    have hbox := hb.1
    have hep := Nat.eq_of_beq_eq_true hb.2
    have hfit := hrep.1
    obtain ⟨hid, hr2⟩ := (show RepL w g st (.n id [] ep lo len) vj from hrep.2)
    obtain ⟨_, hwh, ad, c, rfl, hlc, hlr, hc⟩ := hr2 ob hob
    obtain ⟨rfl, rfl⟩ := hwh hep
    have conc : ∀ {L : Nat → Prop} {live : Prop}, (∀ b, L b → g.lab b = some id) → Ow w g.A L (.slice ad ob.rows.length c) (.s true ob.k ob.rows) → (∀ (w' : World) (g1 : Gh) (rows' : List (List T)) (S' : Nat → Prop), g1.β = g.β → g1.ω = g.ω → g1.sz = g.sz → (live → ∀ b, S' b → g1.lab b = some id) → (∀ b, S' b → L b ∨ w.heap.size ≤ b) →
      (∀ b, b < w.heap.size → ¬ L b → g1.lab b = g.lab b ∧ w'.heap[b]? = w.heap[b]?) → (¬ live → ∀ b, w.heap.size ≤ b → g1.lab b ≠ some id) → (∀ b, g.A b → b < w.heap.size → g1.A b) → (∀ b, b < w.heap.size → bsz w' b = bsz w b) →
      Ow w' g1.A S' (.slice ad ob.rows.length c) (.s true ob.k rows') → rows'.length = ob.rows.length →
      RepOb w' g1 st id { ob with rows := rows', ep := ob.ep + 1 } ∧ (g.lab (g.β id) = some id → g1.lab (g.β id) = some id)) → (∃ fn, P.funcs[f]? = some fn ∧ (fn.name == "runtime.NumGoroutine") = false ∧ fn.body.isSome = true) ∧
    Calls P f vals w fun e w' => ∃ v st' av g', e = .returned v ∧ K st' av ∧ RepSt w' g' st' N pv a ∧ RepAV w' g' st' av v ∧ Fr w0 A0 w' g' := by
      intro L live hL hO post
      obtain ⟨as, as', rows', res, has, hFa, hFz, hKc, Av, hA1, hA2, hA3, q2⟩ := muC_split h hl hr hob hbox hL hvj hO hK
      obtain ⟨p1, p2⟩ := mu_core h hF hG hFn hl hr hob hbox hL hvj hO has hFa hFz hA1 hA2 hA3 q2 (R := rows') (fun e => e) (live := live) (fun w' g1 S' => post w' g1 rows' S')
      refine ⟨p1, p2.mono ?_⟩
      rintro e w' ⟨v, he, hall⟩
      obtain ⟨st', av, g', r1, r2, r3, r4⟩ := hall K hKc
      exact ⟨v, st', av, g', he, r1, r2, r3, r4⟩
    have hRO := h.ob id ob hob
    unfold RepOb at hRO
    rw [hbox] at hRO
    by_cases hc0 : c = 0
    · subst hc0
      have hr0 : ob.rows = [] := List.eq_nil_of_length_eq_zero (by omega)
      refine conc (L := fun _ => False) (live := False) (fun _ h => h.elim) (by rw [hr0]; exact .nil _ _ _) (fun w' g1 rows' S' e1 e2 e3 _ hS hold hnew hA hbs hOw hlen => ?_)
      have hr1 : rows' = [] := List.eq_nil_of_length_eq_zero (by omega)
      subst hr1
      have hlab : g.lab (g.β id) = some id → g1.lab (g.β id) = some id := fun hh => by rw [(hold _ (h.lab _ _ hh).1 (fun x => x)).1]; exact hh
      refine ⟨?_, hlab⟩
      unfold RepOb
      simp only [hbox]
      by_cases hlb : g.lab (g.β id) = some id
      · rcases hRO with ⟨_, hn⟩ | ⟨cs, e, vals', Sub, r1, r2, r3, r4, hM⟩
        · exact absurd hlb hn
        · refine .inr ⟨cs, e, vals', fun _ _ _ => False, by rw [e1, (hold _ (h.lab _ _ hlb).1 (fun x => x)).2]; exact r1, by rw [e1]; exact hlab hlb, by rw [e3]; exact r3, by rw [e2]; simp only [List.length_nil]; omega, ⟨fun r hr => (by cases hr), fun i j hi => (by simp at hi), fun i j r t hr => (by simp at hr), fun _ _ _ _ _ hh => hh.elim, fun _ _ _ hh => hh.elim⟩⟩
      · refine .inl ⟨by first | rfl | trivial, fun hh => ?_⟩
        rw [e1] at hh
        by_cases hlt : g.β id < w.heap.size
        · rw [(hold _ hlt (fun hh => hh)).1] at hh; exact hlb hh
        · exact hnew (fun hh => hh) _ (by omega) hh
    · rcases hc with hc | ⟨rfl, hlb, hs⟩
      · exact absurd hc hc0
      · rcases hRO with ⟨_, hn⟩ | ⟨cs, e, vals', Sub, r1, r2, r3, r4, hM⟩
        · exact absurd hlb hn
        · have hO : Ow w g.A (fun x => g.lab x = some id) (.slice (some ⟨g.β id, g.ω id + 0 * ob.k, none⟩) ob.rows.length c) (.s true ob.k ob.rows) := by
            refine .s _ _ _ c ob.k _ vals' Sub cs e r2 r1 ?_ hlc hfit hM.hk (fun i j hi hj => ?_) hM.ht hM.hd hM.hs
            · rw [r3]; simp only [Nat.zero_add, Nat.zero_mul, Nat.add_zero] at hs ⊢; exact hs
            · have := hM.hv i j hi hj
              rw [← this]; congr 1; omega
          refine conc (L := fun x => g.lab x = some id) (live := True) (fun _ h => h) hO (fun w' g1 rows' S' e1 e2 e3 hS1 hS hold hnew hA hbs hOw hlen => ?_)
          rw [← hlen] at hOw
          generalize hvv : Value.slice (some ⟨g.β id, g.ω id + 0 * ob.k, none⟩) rows'.length c = vv at hOw
          cases hOw with
          | nil _ ad => simp at hvv; omega
          | s _ b f c' _ _ vals2 Sub2 cs2 e2' q1 q2 q3 q4 q5 q6 q7 q8 q9 q10 =>
            injection hvv with hv1 hv2 hv3
            injection hv1 with hv1
            injection hv1 with hv1 hv4
            subst hv1
            subst hv3
            subst hv4
            have hb1 : g1.lab (g.β id) = some id := hS1 trivial _ q1
            refine ⟨?_, fun _ => hb1⟩
            have hsz : cs2.size = cs.size := by
              have := hbs _ (h.lab _ _ hlb).1
              unfold bsz at this
              rw [q2, r1] at this
              simpa using this
            unfold RepOb
            simp only [hbox]
            refine .inr ⟨cs2, e2', vals2, Sub2, by rw [e1]; exact q2, by rw [e1]; exact hb1, by rw [e3, hsz]; exact r3, ?_, q6, fun i j hi hj => ?_, q8, q9, fun i j x hx => ⟨hS1 trivial _ (q10 i j x hx).1, by rw [e1]; exact (q10 i j x hx).2⟩⟩
            · rw [e2]
              have := Nat.mul_le_mul_right ob.k q4
              omega
            · have := q7 i j hi hj
              rw [e2, ← this]; congr 1; omega
  · rename_i id row off ep lo len hj
    obtain ⟨vj, hvj⟩ : ∃ vj, vals.toList[j]? = some vj := by
      have := (List.getElem?_eq_some_iff.1 hj).1
      exact ⟨_, List.getElem?_eq_getElem (by omega)⟩
    have hrep := hr j _ _ hj hvj
    split at hK
    rotate_left
    · exact hK.elim
    rename_i ob hob
    obtain ⟨hb, hK⟩ := hK.get
    simp only [Bool.and_eq_true, Bool.not_eq_true'] at hb
    have hbox := hb.1
    have hep := Nat.eq_of_beq_eq_true hb.2
    obtain ⟨hid, hr2⟩ := (show RepL w g st (.n id [(row, off)] ep lo len) vj from hrep.2)
    obtain ⟨_, hr3⟩ := hr2 ob hob hbox
    obtain ⟨hlb, hcell, hlt⟩ := hr3 hep
    have hRO := h.ob id ob hob
    unfold RepOb at hRO
    rw [hbox] at hRO
    rcases hRO with ⟨_, hn⟩ | ⟨cs, e, vals', Sub, r1, r2, r3, r4, hM⟩
    · exact absurd hlb hn
    have hrow : ob.rows[row]? = some (rowAt ob.rows row) := by simp [rowAt, List.getD, hlt]
    have hK := hK _ (fun _ => hrow)
    unfold muP at hK
    split at hK
    rotate_left
    · exact hK.elim
    rename_i k rows2 tl hd
    have hj : (rowAt ob.rows row)[off]? = some (.s true k rows2) := by
      have := congrArg (fun l => l[0]?) hd
      simpa [List.getElem?_drop] using this
    have hrl : (rowAt ob.rows row).length = ob.k := hM.hk _ (List.mem_of_getElem? hrow)
    have hoff : off < ob.k := by have := (List.getElem?_eq_some_iff.1 hj).1; omega
    have hv := hM.hv row off hlt hoff
    have hO := hM.ht row off _ _ hrow hj
    have hve : vj = vals' row off := by
      simp [World.cell?, r1, hv] at hcell
      exact hcell.symm
    subst hve
    obtain ⟨as, as', rows', res, has, hFa, hFz, hKc, Av, hA1, hA2, hA3, q2⟩ := muC_split h hl hr hob hbox (L := Sub row off) (fun b hb => (hM.hs _ _ _ hb).1) hvj hO hK
    obtain ⟨p1, p2⟩ := mu_core h hF hG hFn hl hr hob hbox (L := Sub row off) (fun b hb => (hM.hs _ _ _ hb).1) hvj hO has hFa hFz hA1 hA2 hA3 q2 (R := ob.rows.set row (fillRow (rowAt ob.rows row) off [.s true k rows'])) (fun _ => by simp) (live := True) (fun w' g1 S' e1 e2 e3 hS1 hS hold hnew hA hbs hOw hlen => by
      have hbL : ¬ Sub row off (g.β id) := fun hh => (hM.hs _ _ _ hh).2 rfl
      have hbold := hold _ (h.lab _ _ hlb).1 hbL
      have hb1 : g1.lab (g.β id) = some id := by rw [hbold.1]; exact hlb
      refine ⟨?_, fun _ => hb1⟩
      unfold RepOb
      simp only [hbox]
      have hfl : (fillRow (rowAt ob.rows row) off [.s true k rows']).length = ob.k := by rw [fillRow_len (by simp; omega)]; exact hrl
      have hnL : ∀ i j x, ¬ (i = row ∧ j = off) → Sub i j x → ¬ Sub row off x := fun i j x hne hx hx2 => hne (hM.hd _ _ _ _ _ hx hx2)
      refine .inr ⟨cs, e, vals', fun i j => if i = row ∧ j = off then S' else Sub i j, by rw [e1, hbold.2]; exact r1, by rw [e1]; exact hb1, by rw [e3]; exact r3, by rw [e2]; simp only [List.length_set]; exact r4, ⟨fun r hr => ?_, fun i j hi hj => ?_, fun i j r t hr ht => ?_, fun i j i' j' x hx hx' => ?_, fun i j x hx => ?_⟩⟩
      · rcases List.mem_or_eq_of_mem_set hr with hr | rfl
        · exact hM.hk r hr
        · exact hfl
      · rw [e2]; exact hM.hv i j (by simpa using hi) hj
      · have old : ¬ (i = row ∧ j = off) → ∀ r0, ob.rows[i]? = some r0 → r0[j]? = some t → Ow w' g1.A ((fun i j => if i = row ∧ j = off then S' else Sub i j) i j) (vals' i j) t := by
          intro hne r0 h1 h2
          simp only [if_neg hne]
          refine (hM.ht i j _ _ h1 h2).mono (fun b hb hlt => ⟨hA b hb hlt, (hold b hlt (fun hh => by have h5 := hb.1; rw [(hM.hs _ _ _ hh).1] at h5; cases h5)).2⟩) (fun x hx hlt => ⟨hx, (hold x hlt (hnL i j x hne hx)).2⟩)
        by_cases hi : i = row
        · subst hi
          rw [List.getElem?_set_self hlt] at hr
          cases hr
          rw [fillRow_get (by simp; omega)] at ht
          by_cases hjo : j = off
          · subst hjo
            simp at ht
            subst ht
            simp only [and_self, if_true]
            exact hOw
          · rw [if_neg (by simp; omega)] at ht
            exact old (fun hh => hjo hh.2) _ hrow ht
        · rw [List.getElem?_set_ne (by omega)] at hr
          exact old (fun hh => hi hh.1) _ hr ht
      · have two : ∀ i j, ¬ (i = row ∧ j = off) → S' x → Sub i j x → False := by
          intro i j hne h1 h2
          rcases hS x h1 with h3 | h3
          · exact hnL i j x hne h2 h3
          · have := (h.lab x id (hM.hs _ _ _ h2).1).1
            omega
        by_cases h1 : i = row ∧ j = off
        · by_cases h2 : i' = row ∧ j' = off
          · exact ⟨h1.1.trans h2.1.symm, h1.2.trans h2.2.symm⟩
          · simp only [if_pos h1, if_neg h2] at hx hx'
            exact (two _ _ h2 hx hx').elim
        · by_cases h2 : i' = row ∧ j' = off
          · simp only [if_neg h1, if_pos h2] at hx hx'
            exact (two _ _ h1 hx' hx).elim
          · simp only [if_neg h1, if_neg h2] at hx hx'
            exact hM.hd _ _ _ _ _ hx hx'
      · rw [e1]
        by_cases h1 : i = row ∧ j = off
        · simp only [if_pos h1] at hx
          refine ⟨hS1 trivial x hx, fun he => ?_⟩
          subst he
          rcases hS _ hx with h3 | h3
          · exact hbL h3
          · have := (h.lab _ _ hlb).1
            omega
        · simp only [if_neg h1] at hx
          obtain ⟨h3, h4⟩ := hM.hs _ _ _ hx
          refine ⟨?_, h4⟩
          rw [(hold x (h.lab _ _ h3).1 (hnL i j x h1 hx)).1]
          exact h3)
    refine ⟨p1, p2.mono ?_⟩
    rintro e w' ⟨v, he, hall⟩
    obtain ⟨st', av, g', r1, r2, r3, r4⟩ := hall K (hKc _ rfl)
    exact ⟨v, st', av, g', he, r1, r2, r3, r4⟩
  · rename_i cells hj
    exact muG_ok h hF hG hFn hl hr hj hK
  · rename_i id ep hj
    exact muV_ok h hF hG hFn hl hr hj hK
  · exact muK_ok h hF hG hFn hl hr hK
  · exact hK.elim
end Go.Ev
