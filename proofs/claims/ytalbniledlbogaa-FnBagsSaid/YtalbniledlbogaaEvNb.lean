/- Calls that turn a struct, or a variable, in place. -/
import Derived.Test.YtalbniledlbogaaEvNm
set_option linter.unusedSectionVars false
set_option linter.unusedVariables false
set_option linter.unusedSimpArgs false
namespace Go.Ev
open Go
open Classical
variable {E : Env} {w w' w0 : World} {A0 : Fix} {g g' : Gh} {st st' : St} {N : Nat} {pv : List Value} {a : Act}

/-- The ghost behind a call that turned some objects; L: their blocks; own: whose is what then. -/
noncomputable def Gh.muts (g : Gh) (sz n rid : Nat) (L : Nat → Prop) (own : Nat → Nat → Prop) (lab' : Nat → Option Nat) : Gh :=
  { g with lab := fun b => if b < sz ∧ ¬ L b then g.lab b else if hh : ∃ i, own i b then some hh.choose else if lab' b = some n then some rid else none }

theorem muOuts1 {m : AV} {v0 : Value} {A : Nat → Prop} {lab' : Nat → Option Nat} {o : AV} {kps : List (List Nat)} : ∀ {j : Nat} {l l1 l' : List AV} {vs : List Value}, muArgs st (.tup [m]) j l = some l1 → FzAs l1 l' → vs[j]? = some v0 → OutsRep w w' A lab' 0 l' vs [o] kps →
    ResRep1 w' A (fun b => lab' b = some 0) o v0 := muOuts

theorem mu_gen (h : RepSt w g st N pv a) (hF : Fr w0 A0 w g) {P : Program} (hG : GOk P w0 (A0.G w0)) {F : Nat → List AV → Out → Prop} (hFn : ∀ f as out, F f as out → FnOk P f as out) {f : Nat} {args : List AV} {vals : Array Value}
    {I : Nat → Prop} {L : Nat → Prop} (hL : ∀ b, L b → ∃ i, I i ∧ g.lab b = some i) {j : Nat} {vj : Value} (hvj : vals.toList[j]? = some vj) {m o res : AV}
    {as as' : List AV} (has : muArgs st (.tup [m]) j args = some as) (hFa : F f as' ⟨res, [o], [], false⟩) (hFz : FzAs as as')
    {Av : Nat → Prop} (hA1 : ∀ b, Av b → b < w.heap.size ∧ ¬ L b) (hA2 : ∀ b, g.A b → b < w.heap.size → Av b) (hA3 : ∀ b, Av b → g.A b) (q2 : ArgsRep w Av (fun b => if L b then some 0 else none) 0 as vals.toList)
    {st1 : St} (htm : st1.tm = st.tm) (hpr : st1.pr = st.pr) (hln : st1.ob.length = st.ob.length) (hoth : ∀ i, ¬ I i → st1.obj i = st.obj i)
    (hin : ∀ i, I i → ∃ ob ob1, st.obj i = some ob ∧ st1.obj i = some ob1 ∧ ob1.box = ob.box ∧ ob1.k = ob.k ∧ ob.ep < ob1.ep)
    (post : ∀ (w' : World) (lab' : Nat → Option Nat), Aft w (fun b => if L b then some 0 else none) w' lab' → ResRep1 w' (fun b => Av b ∨ (w.heap.size ≤ b ∧ lab' b = none)) (fun b => lab' b = some 0) o vj →
      ∃ own : Nat → Nat → Prop, (∀ i b, own i b → I i ∧ lab' b = some 0) ∧ (∀ i i' b, own i b → own i' b → i = i') ∧ (∀ i ob ob1, I i → st.obj i = some ob → st1.obj i = some ob1 → ob1.rows.length = ob.rows.length) ∧
        ∀ g1 : Gh, g1.β = g.β → g1.ω = g.ω → g1.sz = g.sz → (∀ i b, own i b → g1.lab b = some i) → (∀ b, b < w.heap.size → ¬ L b → g1.lab b = g.lab b ∧ w'.heap[b]? = w.heap[b]?) → (∀ b i, I i → g1.lab b = some i → own i b ∨ (b < w.heap.size ∧ ¬ L b ∧ g.lab b = some i)) →
          (∀ b, g.A b → b < w.heap.size → g1.A b) → (∀ b, w.heap.size ≤ b → lab' b = none → g1.A b) → (∀ b, b < w.heap.size → bsz w' b = bsz w b) →
          ∀ i ob1, I i → st1.obj i = some ob1 → RepOb w' g1 st1 i ob1 ∧ (g.lab (g.β i) = some i → g1.lab (g.β i) = some i)) :
    (∃ fn, P.funcs[f]? = some fn ∧ (fn.name == "runtime.NumGoroutine") = false ∧ fn.body.isSome = true) ∧
    Calls P f vals w fun e w' => ∃ v, e = .returned v ∧ ∀ K : St → AV → Prop, inK st1.pad K res →
      ∃ st' av g', K st' av ∧ RepSt w' g' st' N pv a ∧ RepAV w' g' st' av v ∧ Fr w0 A0 w' g' := by
  have hCn := hFn f as' _ hFa
  have hLs : ∀ b, L b → b < w.heap.size := fun b hb => by
    obtain ⟨i, _, h2⟩ := hL b hb
    exact (h.lab b i h2).1
  let lab : Nat → Option Nat := fun b => if L b then some 0 else none
  have labL : ∀ b, L b → lab b = some 0 := fun b hb => if_pos hb
  have labN : ∀ b, ¬ L b → lab b = none := fun b hb => if_neg hb
  have hAl : ∀ b, Av b → b < w.heap.size ∧ lab b = none := fun b hb => ⟨(hA1 b hb).1, labN b (hA1 b hb).2⟩
  refine ⟨hCn.fn, (hCn.run w Av lab vals (hFz.args q2) hAl (fun b i hb => ?_) ((hF.gok hG).mono fun b hb hlt => ⟨hA2 b hb hlt, hlt, rfl⟩)).mono ?_⟩
  · by_cases hh : L b
    · exact hLs b hh
    · rw [labN b hh] at hb; cases hb
  rintro e w' ⟨v, lab', rfl, hAft, hRes, hOut⟩
  obtain ⟨n, hn⟩ : ∃ n, n = as'.length := ⟨_, rfl⟩
  rw [← hn] at hRes
  have hn0 : n ≠ 0 := by
    have := muArgs_at has
    have := (List.getElem?_eq_some_iff.1 this).1
    rw [hn, hFz.len]; omega
  have hOw := muOuts1 has hFz hvj hOut
  obtain ⟨own, hown, hone, hrl, hpost⟩ := post w' lab' hAft hOw
  let g1 := g.muts w.heap.size n st.ob.length L own lab'
  have old : ∀ b, b < w.heap.size → ¬ L b → g1.lab b = g.lab b := fun b hb hb2 => if_pos ⟨hb, hb2⟩
  have same : ∀ b, b < w.heap.size → ¬ L b → w'.heap[b]? = w.heap[b]? := fun b hb hb2 => (hAft.blk b hb (labN b hb2)).1
  have notOld : ∀ b, lab' b ≠ none → ¬ (b < w.heap.size ∧ ¬ L b) := by
    rintro b hb ⟨h1, h2⟩
    exact hb (hAft.blk b h1 (labN b h2)).2
  have isOwn : ∀ i b, own i b → g1.lab b = some i := by
    intro i b hb
    have h1 : ¬ (b < w.heap.size ∧ ¬ L b) := notOld b (by rw [(hown i b hb).2]; simp)
    have hex : ∃ i, own i b := ⟨i, hb⟩
    show (if b < w.heap.size ∧ ¬ L b then g.lab b else if hh : ∃ i, own i b then some hh.choose else if lab' b = some n then some st.ob.length else none) = some i
    rw [if_neg h1, dif_pos hex]
    exact congrArg some (hone _ _ _ hex.choose_spec hb)
  have new : ∀ b, ¬ (b < w.heap.size ∧ ¬ L b) → (∀ i, ¬ own i b) → g1.lab b = if lab' b = some n then some st.ob.length else none := fun b hb h2 => by
    show (if b < w.heap.size ∧ ¬ L b then g.lab b else if hh : ∃ i, own i b then some hh.choose else if lab' b = some n then some st.ob.length else none) = _
    rw [if_neg hb, dif_neg (fun ⟨i, hi⟩ => h2 i hi)]
  have aN : ∀ b, g.A b → ¬ L b := fun b hb hh => by
    obtain ⟨i, _, h2⟩ := hL b hh
    have h1 := hb.1; rw [h2] at h1; cases h1
  have gA : ∀ b, g.A b → b < w.heap.size → g1.A b := fun b hb hlt => ⟨by rw [old b hlt (aN b hb)]; exact hb.1, hb.2⟩
  have hx : ∀ b, g.X b → b < w.heap.size := fun b hb => by
    have := hF.x.2 b (by rw [← hF.x.1]; exact hb)
    have := hF.size
    omega
  have newA : ∀ b, w.heap.size ≤ b → lab' b = none → g1.A b := fun b hge hnone => by
    refine ⟨?_, fun hX => ?_⟩
    · rw [new b (by omega) (fun i hi => by have := (hown i b hi).2; rw [hnone] at this; cases this), hnone]; simp
    · have := hx b hX
      omega
  have back : ∀ b i, I i → g1.lab b = some i → own i b ∨ (b < w.heap.size ∧ ¬ L b ∧ g.lab b = some i) := by
    intro b i hi hb
    by_cases h1 : b < w.heap.size ∧ ¬ L b
    · rw [old b h1.1 h1.2] at hb
      exact .inr ⟨h1.1, h1.2, hb⟩
    · by_cases h2 : ∃ k, own k b
      · obtain ⟨k, hk⟩ := h2
        have := isOwn k b hk
        rw [hb] at this; cases this
        exact .inl hk
      · rw [new b h1 (fun k hk => h2 ⟨k, hk⟩)] at hb
        split at hb
        · cases hb
          obtain ⟨ob, _, h3, _⟩ := hin _ hi
          have := obj_lt h3
          omega
        · cases hb
  have hP := hpost g1 rfl rfl rfl isOwn (fun b hb hb2 => ⟨old b hb hb2, same b hb hb2⟩) back gA newA hAft.bs
  have hKp : Keeps w g st w' g1 st1.pad := by
    refine ⟨fun b hb hlt => ⟨gA b hb hlt, same b hlt (aN b hb)⟩, by simp [St.pad, hln], fun i ob' hi ho => ?_, fun i ob' hi ho ob2 h2 => ?_, fun i ob' hi ho => ⟨rfl, rfl, rfl, fun hlb => ?_⟩⟩
    · rw [obj_pad] at ho
      by_cases he : I i
      · obtain ⟨ob, ob1, h1, h2, h3, h4, h5⟩ := hin i he
        rw [h2] at ho; cases ho
        exact ⟨ob, h1, h3, h4, hrl i ob _ he h1 h2⟩
      · rw [hoth i he] at ho
        exact ⟨ob', ho, rfl, rfl, rfl⟩
    · rw [obj_pad] at ho
      by_cases he : I i
      · obtain ⟨ob, ob1, h1, h2', h3, h4, h5⟩ := hin i he
        rw [h2'] at ho; cases ho
        rw [h1] at h2; cases h2
        exact ⟨Nat.le_of_lt h5, fun e => absurd e (by omega)⟩
      · rw [hoth i he, h2] at ho
        cases ho
        refine ⟨Nat.le_refl _, fun _ _ hl2 => same _ (h.lab _ _ hl2).1 (fun hh => ?_)⟩
        obtain ⟨k, hk, hk2⟩ := hL _ hh
        rw [hl2] at hk2; cases hk2; exact he hk
    · rw [obj_pad] at ho
      by_cases he : I i
      · exact (hP i ob' he ho).2 hlb
      · rw [old _ (h.lab _ _ hlb).1 (fun hh => by
          obtain ⟨k, hk, hk2⟩ := hL _ hh
          rw [hlb] at hk2; cases hk2; exact he hk)]; exact hlb
  have hRp : RepSt w' g1 st1.pad N pv a := by
    refine ⟨h.size, h.defers, fun i => ?_, fun i ob' ho => ?_, fun b i hb => ?_, ?_, fun i t u hi hu => ?_⟩
    · show RepAV w' g1 st1.pad (look st1.tm i) _
      rw [htm]; exact (h.tm i).keeps hKp
    · rw [obj_pad] at ho
      by_cases he : I i
      · have hb := (hP i ob' he ho).1
        have hpd : Keeps w' g1 st1 w' g1 st1.pad := ⟨fun _ h _ => ⟨h, rfl⟩, by simp [St.pad], fun _ ob' _ h => ⟨ob', by rw [obj_pad] at h; exact h, rfl, rfl, rfl⟩, fun k ob' _ h ob h' => by
          rw [obj_pad, h'] at h; cases h; exact ⟨Nat.le_refl _, fun _ _ _ => rfl⟩, fun _ _ _ _ => ⟨rfl, rfl, rfl, fun h => h⟩⟩
        exact hb.keeps hpd ⟨rfl, rfl, rfl⟩ (fun x hx hlt => ⟨hx, rfl⟩) (fun hne hh => hne hh)
      · rw [hoth i he] at ho
        have hi := obj_lt ho
        refine (h.ob i ob' ho).keeps hKp ⟨rfl, rfl, rfl⟩ (fun x hx hlt => ?_) (fun hne hh => ?_)
        · have hnL : ¬ L x := fun hh => by
            obtain ⟨k, hk, hk2⟩ := hL _ hh
            rw [hx] at hk2; cases hk2; exact he hk
          exact ⟨by rw [old x hlt hnL]; exact hx, same x hlt hnL⟩
        · have hh : g1.lab (g.β i) = some i := hh
          by_cases hb : g.β i < w.heap.size ∧ ¬ L (g.β i)
          · rw [old _ hb.1 hb.2] at hh; exact hne hh
          · by_cases h2 : ∃ k, own k (g.β i)
            · obtain ⟨k, hk⟩ := h2
              have := isOwn k _ hk
              rw [hh] at this; cases this
              exact he (hown _ _ hk).1
            · rw [new _ hb (fun k hk => h2 ⟨k, hk⟩)] at hh
              split at hh
              · cases hh; omega
              · cases hh
    · by_cases hlt : b < w.heap.size ∧ ¬ L b
      · rw [old b hlt.1 hlt.2] at hb
        have := h.lab b i hb
        have := hAft.size
        exact ⟨by omega, by simp [St.pad, hln]; omega⟩
      · by_cases h2 : ∃ k, own k b
        · obtain ⟨k, hk⟩ := h2
          have h3 := isOwn k b hk
          rw [hb] at h3; cases h3
          obtain ⟨ob, _, h4, _⟩ := hin _ (hown _ _ hk).1
          have := obj_lt h4
          exact ⟨hAft.lt b _ (hown _ _ hk).2, by simp [St.pad, hln]; omega⟩
        · rw [new b hlt (fun k hk => h2 ⟨k, hk⟩)] at hb
          split at hb
          · rename_i hlb
            cases hb
            exact ⟨hAft.lt b _ hlb, by simp [St.pad, hln]⟩
          · cases hb
    · show pv.length = st1.pr.length
      rw [hpr]; exact h.pr.1
    · have hi : st1.pr[i]? = some t := hi
      rw [hpr] at hi
      exact (h.pr.2 i t u hi hu).keeps hKp
  have hpool : Pool g1 st1.pad (fun b => lab' b = some n) := by
    intro b hb
    refine ⟨st.ob.length, ?_, ?_⟩
    · rw [new b (notOld b (by rw [hb]; simp)) (fun i hi => by
        have := (hown i b hi).2
        rw [hb] at this; cases this; exact hn0 rfl), if_pos hb]
    · rw [obj_pad]
      unfold St.obj
      rw [List.getElem?_eq_none (by omega)]
      rfl
  refine ⟨v, rfl, fun K hKin => ?_⟩
  obtain ⟨st2, av2, g2, hK2, hIn, hAV⟩ := inRes_ok hRp (A := Out.A ⟨res, [o], [], false⟩ w.heap.size Av lab') (S := fun b => lab' b = some n) (fun b hb => by
    rcases hb with ⟨ha, _⟩ | ⟨hge, hnone⟩
    · cases ha
    · exact newA b hge hnone) hpool hRes hKin
  refine ⟨st2, av2, g2, hK2, hIn.rep, hAV, ?_⟩
  refine ⟨hAft.os.trans hF.os, hAft.tape.trans hF.tape, hAft.output.trans hF.output, Nat.le_trans hF.size hAft.size, ⟨hIn.X.trans hF.x.1, hF.x.2⟩, fun b hb hA => ?_, fun b hb => (hAft.bs b (Nat.lt_of_lt_of_le hb hF.size)).trans (hF.bs b hb)⟩
  obtain ⟨p1, p2⟩ := hF.blk b hb hA
  have hlt : b < w.heap.size := Nat.lt_of_lt_of_le hb hF.size
  have hnL : ¬ L b := fun hh => by
    obtain ⟨k, hk, hk2⟩ := hL _ hh
    rw [p2] at hk2; cases hk2
  exact ⟨(same b hlt hnL).trans p1, hIn.none b (by rw [old b hlt hnL]; exact p2)⟩
theorem freshN_iff {i : Nat} : ∀ {l : List Nat}, freshN i l = true ↔ i ∉ l
  | [] => by simp [freshN]
  | j :: l => by
    simp only [freshN, Bool.and_eq_true, Bool.not_eq_true', List.mem_cons, not_or, freshN_iff (l := l)]
    refine and_congr_left fun _ => ?_
    constructor
    · intro h e
      subst e
      rw [Nat.beq_refl] at h; cases h
    · intro h
      cases hb : Nat.beq i j with
      | false => rfl
      | true => exact absurd (Nat.eq_of_beq_eq_true hb) h
theorem cellIds_mem {l : List T} {j id : Nat} {p : List (Nat × Nat)} {ep lo len : Nat} : l[j]? = some (.n id p ep lo len) → id ∈ cellIds l := by
  induction l generalizing j with
  | nil => intro h; simp at h
  | cons t l ih =>
    intro h
    cases j with
    | zero => simp at h; subst h; simp [cellIds]
    | succ j =>
      have := ih (by simpa using h)
      cases t <;> simp [cellIds, this]
theorem cellIds_at {l : List T} {id : Nat} : id ∈ cellIds l → ∃ (j : Nat) (p : List (Nat × Nat)) (ep lo len : Nat), l[j]? = some (T.n id p ep lo len) := by
  induction l with
  | nil => intro h; cases h
  | cons t l ih =>
    intro h
    have tl : id ∈ cellIds l → ∃ (j : Nat) (p : List (Nat × Nat)) (ep lo len : Nat), (t :: l)[j]? = some (T.n id p ep lo len) := fun h => by
      obtain ⟨j, p, ep, lo, len, hj⟩ := ih h
      exact ⟨j + 1, p, ep, lo, len, by simpa using hj⟩
    cases t with
    | n i p ep lo len =>
      simp only [cellIds, List.mem_cons] at h
      rcases h with rfl | h
      · exact ⟨0, p, ep, lo, len, rfl⟩
      · exact tl h
    | _ => exact tl h
theorem nodupN_at {l : List T} : nodupN (cellIds l) = true → ∀ {j j' id : Nat} {p p' : List (Nat × Nat)} {ep lo len ep' lo' len' : Nat}, l[j]? = some (.n id p ep lo len) → l[j']? = some (.n id p' ep' lo' len') → j = j' := by
  induction l with
  | nil => intro _ j j' id p p' ep lo len ep' lo' len' h; simp at h
  | cons t l ih =>
    intro hn j j' id p p' ep lo len ep' lo' len' h h'
    have htl : nodupN (cellIds l) = true := by
      cases t with
      | n i p ep lo len => simp only [cellIds, nodupN, Bool.and_eq_true] at hn; exact hn.2
      | _ => exact hn
    have hhd : ∀ {q : List (Nat × Nat)} {a b c : Nat}, t = .n id q a b c → id ∉ cellIds l := by
      rintro q a b c rfl
      simp only [cellIds, nodupN, Bool.and_eq_true] at hn
      exact freshN_iff.1 hn.1
    cases j with
    | zero =>
      cases j' with
      | zero => rfl
      | succ j' =>
        simp at h
        exact absurd (cellIds_mem (by simpa using h')) (hhd h)
    | succ j =>
      cases j' with
      | zero =>
        simp at h'
        exact absurd (cellIds_mem (by simpa using h)) (hhd h')
      | succ j' => exact congrArg (· + 1) (ih htl (by simpa using h) (by simpa using h'))
structure PutR (st st1 : St) (cells ts : List T) : Prop where
  tm : st1.tm = st.tm
  pr : st1.pr = st.pr
  len : st1.ob.length = st.ob.length
  cl : ts.length = cells.length
  oth : ∀ i, i ∉ cellIds cells → st1.obj i = st.obj i
  put : ∀ (j id ep lo len : Nat), cells[j]? = some (.n id [] ep lo len) → ∃ ob rows, st.obj id = some ob ∧ ts[j]? = some (.s true ob.k rows) ∧ st1.obj id = some { ob with rows := rows, ep := ob.ep + 1 }
  plain : ∀ (j id : Nat) (p : List (Nat × Nat)) (ep lo len : Nat), cells[j]? = some (.n id p ep lo len) → p = []
theorem putCells_ok {K : St → Prop} : ∀ {cells ts : List T} {st : St}, nodupN (cellIds cells) = true → (∀ (j id : Nat) (p : List (Nat × Nat)) (ep lo len : Nat), cells[j]? = some (.n id p ep lo len) → p = []) → putCells K st cells ts → ∃ st1, K st1 ∧ PutR st st1 cells ts
  | [], [], st, _, _, h => ⟨st, h, rfl, rfl, rfl, rfl, fun _ _ => rfl, fun j id ep lo len hj => by simp at hj, fun j id p ep lo len hj => by simp at hj⟩
  | [], _ :: _, st, _, _, h => h.elim
  | t :: l, [], st, _, _, h => by
    cases t with
    | n id p ep lo len => cases p <;> exact h.elim
    | _ => exact h.elim
  | t :: l, t' :: l', st, hn, hp, h => by
    have skip : cellIds (t :: l) = cellIds l → (∀ (id : Nat) (ep lo len : Nat), t ≠ .n id [] ep lo len) → putCells K st l l' → ∃ st1, K st1 ∧ PutR st st1 (t :: l) (t' :: l') := by
      intro he hne h
      obtain ⟨st1, hK, h1, h2, h3, h4, h5, h6, h7⟩ := putCells_ok (cells := l) (by rw [he] at hn; exact hn) (fun j id p ep lo len hj => hp (j + 1) id p ep lo len (by simpa using hj)) h
      refine ⟨st1, hK, h1, h2, h3, by simp [h4], by rw [he]; exact h5, fun j id ep lo len hj => ?_, hp⟩
      cases j with
      | zero => simp at hj; exact absurd hj (hne id ep lo len)
      | succ j => simpa using h6 j id ep lo len (by simpa using hj)
    cases t with
    | n id p ep lo len =>
      have := hp 0 id p ep lo len rfl
      subst this
      simp only [putCells] at h
      cases hob : st.obj id with
      | none => rw [hob] at h; exact h.elim
      | some ob =>
        rw [hob] at h
        cases t' with
        | s o k rows =>
          cases o with
          | false => exact h.elim
          | true =>
            obtain ⟨hk, hput⟩ := Tr.get (show Tr (Nat.beq k ob.k) (putCells K { st with ob := st.ob.set id (some { ob with rows := rows, ep := ob.ep + 1 }) } l l') from h)
            have hk := Nat.eq_of_beq_eq_true hk
            subst hk
            simp only [cellIds, nodupN, Bool.and_eq_true] at hn
            have hfr := freshN_iff.1 hn.1
            clear h
            obtain ⟨st1, hK, h1, h2, h3, h4, h5, h6, h7⟩ := putCells_ok (cells := l) (st := { st with ob := st.ob.set id (some { ob with rows := rows, ep := ob.ep + 1 }) }) hn.2 (fun j id p ep lo len hj => hp (j + 1) id p ep lo len (by simpa using hj)) hput
            have hlt := obj_lt hob
            refine ⟨st1, hK, h1, h2, by simpa using h3, by simp [h4], fun i hi => ?_, fun j id' ep' lo' len' hj => ?_, hp⟩
            · simp only [cellIds, List.mem_cons, not_or] at hi
              rw [h5 i hi.2, obj_set_other hi.1]
            · cases j with
              | zero =>
                simp at hj
                obtain ⟨rfl, _⟩ := hj
                exact ⟨ob, rows, hob, rfl, by rw [h5 _ hfr]; exact obj_set_same hlt⟩
              | succ j =>
                obtain ⟨ob', rows', q1, q2, q3⟩ := h6 j id' ep' lo' len' (by simpa using hj)
                have hne : id' ≠ id := fun e => by
                  subst e
                  exact hfr (cellIds_mem (by simpa using hj))
                rw [obj_set_other hne] at q1
                exact ⟨ob', rows', q1, by simpa using q2, q3⟩
        | _ => exact h.elim
    | _ => exact skip rfl (fun _ _ _ _ => by simp) h
theorem turn1 (h : RepSt w g st N pv a) {st1 : St} {id : Nat} {ob : Ob} (hob : st.obj id = some ob) (hbox : ob.box = false) {ad : Option Addr} {c : Nat} {rows' : List (List T)} {g1 : Gh} {S' : Nat → Prop} (hlc : ob.rows.length ≤ c)
    (hc : c = 0 ∨ (ad = some ⟨g.β id, g.ω id + 0 * ob.k, none⟩ ∧ g.lab (g.β id) = some id ∧ g.ω id + (0 + c) * ob.k ≤ g.sz id))
    (e1 : g1.β = g.β) (e2 : g1.ω = g.ω) (e3 : g1.sz = g.sz) (hS1 : c ≠ 0 → ∀ b, S' b → g1.lab b = some id) (hOw : Ow w' g1.A S' (.slice ad ob.rows.length c) (.s true ob.k rows'))
    (hp : c = 0 → g.lab (g.β id) = some id → g1.lab (g.β id) = some id ∧ w'.heap[g.β id]? = w.heap[g.β id]?) (hn : c = 0 → g1.lab (g.β id) = some id → g.lab (g.β id) = some id)
    (hbs : ∀ b, b < w.heap.size → bsz w' b = bsz w b) :
    RepOb w' g1 st1 id { ob with rows := rows', ep := ob.ep + 1 } ∧ (g.lab (g.β id) = some id → g1.lab (g.β id) = some id) := by
  have hRO := h.ob id ob hob
  unfold RepOb at hRO
  rw [hbox] at hRO
  have hlen : rows'.length = ob.rows.length := by
    obtain ⟨x1, c1, e⟩ := hOw.slice
    injection e with _ e2 _
    exact e2.symm
  by_cases hc0 : c = 0
  · subst hc0
    have hr1 : rows' = [] := List.eq_nil_of_length_eq_zero (by omega)
    subst hr1
    refine ⟨?_, fun hlb => (hp rfl hlb).1⟩
    unfold RepOb
    simp only [hbox]
    by_cases hlb : g.lab (g.β id) = some id
    · rcases hRO with ⟨_, hn⟩ | ⟨cs, e, vals', Sub, r1, r2, r3, r4, hM⟩
      · exact absurd hlb hn
      · refine .inr ⟨cs, e, vals', fun _ _ _ => False, by rw [e1, (hp rfl hlb).2]; exact r1, by rw [e1]; exact (hp rfl hlb).1, by rw [e3]; exact r3, by rw [e2]; simp only [List.length_nil]; omega, ⟨fun r hr => (by cases hr), fun i j hi => (by simp at hi), fun i j r t hr => (by simp at hr), fun _ _ _ _ _ hh => hh.elim, fun _ _ _ hh => hh.elim⟩⟩
    · exact .inl ⟨by first | rfl | trivial, fun hh => by rw [e1] at hh; exact hlb (hn rfl hh)⟩
  · rcases hc with hc | ⟨rfl, hlb, hs⟩
    · exact absurd hc hc0
    · rcases hRO with ⟨_, hn⟩ | ⟨cs, e, vals', Sub, r1, r2, r3, r4, hM⟩
      · exact absurd hlb hn
      · rw [← hlen] at hOw
        generalize hvv : Value.slice (some ⟨g.β id, g.ω id + 0 * ob.k, none⟩) rows'.length c = vv at hOw
        cases hOw with
        | nil _ ad => simp at hvv; omega
        | s _ b f c' _ _ vals2 Sub2 cs2 e2' q1 q2 q3 q4 q5 q6 q7 q8 q9 q10 =>
          injection hvv with hv1 hv2 hv3
          injection hv1 with hv1
          injection hv1 with hv1 hv4
          subst hv1
          subst hv3
          subst hv4
          have hb1 : g1.lab (g.β id) = some id := hS1 hc0 _ q1
          refine ⟨?_, fun _ => hb1⟩
          have hsz : cs2.size = cs.size := by
            have := hbs _ (h.lab _ _ hlb).1
            unfold bsz at this
            rw [q2, r1] at this
            simpa using this
          unfold RepOb
          simp only [hbox]
          refine .inr ⟨cs2, e2', vals2, Sub2, by rw [e1]; exact q2, by rw [e1]; exact hb1, by rw [e3, hsz]; exact r3, ?_, q6, fun i j hi hj => ?_, q8, q9, fun i j x hx => ⟨hS1 hc0 _ (q10 i j x hx).1, by rw [e1]; exact (q10 i j x hx).2⟩⟩
          · rw [e2]
            have := Nat.mul_le_mul_right ob.k q4
            omega
          · have := q7 i j hi hj
            rw [e2, ← this]; congr 1; omega
theorem mutCells_get : ∀ {l l' : List T}, mutCells st l = some l' → l'.length = l.length ∧ ∀ (j : Nat) t, l[j]? = some t → ∃ t', l'[j]? = some t' ∧ mutCell st t = some t'
  | [], l', h => by cases h; exact ⟨rfl, fun j t hj => by simp at hj⟩
  | t :: l, l', h => by
    simp only [mutCells] at h
    split at h
    · rename_i t1 l1 h1 h2
      cases h
      obtain ⟨p1, p2⟩ := mutCells_get h2
      refine ⟨by simp [p1], fun j u hj => ?_⟩
      cases j with
      | zero => simp at hj; subst hj; exact ⟨t1, rfl, h1⟩
      | succ j => simpa using p2 j u (by simpa using hj)
    · cases h
theorem mutCell_n {id ep lo len : Nat} {p : List (Nat × Nat)} {t' : T} (h : mutCell st (.n id p ep lo len) = some t') : p = [] ∧ ep = 1 ∧ ∃ ob, st.obj id = some ob ∧ ob.box = false ∧ t' = .s true ob.k ob.rows := by
  cases p with
  | cons x y => simp [mutCell] at h
  | nil =>
    simp only [mutCell] at h
    cases hob : st.obj id with
    | none => rw [hob] at h; cases h
    | some ob =>
      rw [hob] at h
      cases hb : ob.box with
      | true => simp [hb] at h
      | false =>
        cases he : Nat.beq ep 1 with
        | false => simp [hb, he] at h
        | true =>
          simp only [hb, he, cond_true, cond_false, Option.some.injEq] at h
          exact ⟨rfl, Nat.eq_of_beq_eq_true he, ob, rfl, hb, h.symm⟩
/-- A call that turns the slices of a struct in place. -/
theorem muG_ok (h : RepSt w g st N pv a) (hF : Fr w0 A0 w g) {P : Program} (hG : GOk P w0 (A0.G w0)) {F : Nat → List AV → Out → Prop} (hFn : ∀ f as out, F f as out → FnOk P f as out) {f : Nat} {args : List AV} {vals : Array Value}
    (hl : vals.toList.length = args.length) (hr : ∀ (j : Nat) x u, args[j]? = some x → vals.toList[j]? = some u → RepAV w g st x u) {K : St → AV → Prop} {j : Nat} {cells : List T} (hj : args[j]? = some (.agg cells)) (hK : muG F f args j st K cells (mutCells st cells)) :
    (∃ fn, P.funcs[f]? = some fn ∧ (fn.name == "runtime.NumGoroutine") = false ∧ fn.body.isSome = true) ∧
    Calls P f vals w fun e w' => ∃ v st' av g', e = .returned v ∧ K st' av ∧ RepSt w' g' st' N pv a ∧ RepAV w' g' st' av v ∧ Fr w0 A0 w' g' := by
  obtain ⟨vj, hvj⟩ : ∃ vj, vals.toList[j]? = some vj := by
    have := (List.getElem?_eq_some_iff.1 hj).1
    exact ⟨_, List.getElem?_eq_getElem (by omega)⟩
  have hrep := hr j _ _ hj hvj
  cases hm : mutCells st cells with
  | none => rw [hm] at hK; exact hK.elim
  | some ts =>
    rw [hm] at hK
    unfold muG at hK
    simp only at hK
    split at hK
    rotate_left
    · exact hK.elim
    rename_i as has
    obtain ⟨as', ts', res, hFa, hFz, hK⟩ := hK
    obtain ⟨hb, hK⟩ := hK.get
    simp only [Bool.and_eq_true] at hb
    obtain ⟨hnd, hnr⟩ := hb
    obtain ⟨cs, rfl, hcs, hce⟩ := hrep
    obtain ⟨htl, hmc⟩ := mutCells_get hm
    have hpl : ∀ (j id : Nat) (p : List (Nat × Nat)) (ep lo len : Nat), cells[j]? = some (.n id p ep lo len) → p = [] ∧ ep = 1 ∧ ∃ ob, st.obj id = some ob ∧ ob.box = false ∧ ts[j]? = some (.s true ob.k ob.rows) := by
      intro j id p ep lo len hj
      obtain ⟨t', h1, h2⟩ := hmc j _ hj
      obtain ⟨q1, q2, ob, q3, q4, rfl⟩ := mutCell_n h2
      exact ⟨q1, q2, ob, q3, q4, h1⟩
    obtain ⟨st1, hK1, R⟩ := putCells_ok hnd (fun j id p ep lo len hj => (hpl j id p ep lo len hj).1) hK
    -- what a slice's value is
    have hval : ∀ (j id lo len : Nat), cells[j]? = some (.n id [] 1 lo len) → ∃ ob ad c, st.obj id = some ob ∧ ob.box = false ∧ ts[j]? = some (.s true ob.k ob.rows) ∧ cs[j]? = some (.slice ad ob.rows.length c) ∧ len = ob.rows.length ∧ ob.rows.length ≤ c ∧ fit (.slice ad ob.rows.length c) = true ∧
        (c = 0 ∨ (ad = some ⟨g.β id, g.ω id + 0 * ob.k, none⟩ ∧ g.lab (g.β id) = some id ∧ g.ω id + (0 + c) * ob.k ≤ g.sz id)) := by
      intro j id lo len hj
      obtain ⟨_, _, ob, hob, hbox, hts⟩ := hpl j id [] 1 lo len hj
      have hlt : j < cs.size := by have := (List.getElem?_eq_some_iff.1 hj).1; omega
      have hu : cs[j]? = some cs[j] := by simp [hlt]
      obtain ⟨hf, hr1⟩ := hce j _ _ hj hu
      obtain ⟨_, hr2⟩ := (show RepL w g st (.n id [] 1 lo len) cs[j] from hr1)
      obtain ⟨_, hwh, ad, c, e, hlc, hlr, hc⟩ := hr2 ob hob
      obtain ⟨rfl, rfl⟩ := hwh rfl
      rw [e] at hu hf
      exact ⟨ob, ad, c, hob, hbox, hts, hu, rfl, hlc, hf, hc⟩
    let Sub : Nat → Nat → Prop := fun j b => ∃ (id lo len : Nat) (ad : Option Addr) (c : Nat), cells[j]? = some (.n id [] 1 lo len) ∧ cs[j]? = some (.slice ad len c) ∧ c ≠ 0 ∧ g.lab b = some id
    let L : Nat → Prop := fun b => ∃ j, Sub j b
    let I : Nat → Prop := fun i => i ∈ cellIds cells
    have hL : ∀ b, L b → ∃ i, I i ∧ g.lab b = some i := fun b ⟨j, id, lo, len, ad, c, h1, _, _, h2⟩ => ⟨id, cellIds_mem h1, h2⟩
    have aN : ∀ b, g.A b → ¬ L b := fun b hb hh => by
      obtain ⟨i, _, h2⟩ := hL b hh
      have h1 := hb.1; rw [h2] at h1; cases h1
    have hOw : ∀ (j : Nat) t u, ts[j]? = some t → cs[j]? = some u → Ow w (Sees w g true) (Sub j) u t := by
      intro j t' u hjt hju
      have hlt : j < cells.length := by have := (List.getElem?_eq_some_iff.1 hjt).1; omega
      obtain ⟨t, hjc⟩ : ∃ t, cells[j]? = some t := ⟨_, List.getElem?_eq_getElem hlt⟩
      obtain ⟨t2, h1, h2⟩ := hmc j t hjc
      rw [hjt] at h1; cases h1
      obtain ⟨hf, hr1⟩ := hce j t u hjc hju
      cases t with
      | v x =>
        cases h2
        have e : u = x := hr1
        subst e
        exact .v _ _ hf
      | s o k rows =>
        cases o with
        | false =>
          cases h2
          exact .f _ _ _ _ (Fz.mono (fun b hb hlt => ⟨⟨hlt, fun _ => hb⟩, rfl⟩) (show Fz w g.A u (.s false k rows) from hr1))
        | true =>
          obtain ⟨rfl, a', rfl⟩ := (show RepL w g st (.s true k rows) u from hr1)
          cases h2
          exact .nil _ _ _
      | n id p ep lo len =>
        obtain ⟨rfl, rfl, _⟩ := mutCell_n h2
        obtain ⟨ob, ad, c, hob, hbox, hts, hu, rfl, hlc, hfit, hc⟩ := hval j id lo len hjc
        rw [hjt] at hts; cases hts
        rw [hju] at hu; cases hu
        by_cases hc0 : c = 0
        · subst hc0
          have hr0 : ob.rows = [] := List.eq_nil_of_length_eq_zero (by omega)
          rw [hr0]
          exact .nil _ _ _
        · rcases hc with hc | ⟨rfl, hlb, hs⟩
          · exact absurd hc hc0
          · have hRO := h.ob id ob hob
            unfold RepOb at hRO
            rw [hbox] at hRO
            rcases hRO with ⟨_, hn⟩ | ⟨cs1, e, vals', Sub1, r1, r2, r3, r4, hM⟩
            · exact absurd hlb hn
            · have hO : Ow w g.A (fun x => g.lab x = some id) (.slice (some ⟨g.β id, g.ω id + 0 * ob.k, none⟩) ob.rows.length c) (.s true ob.k ob.rows) := by
                refine .s _ _ _ c ob.k _ vals' Sub1 cs1 e r2 r1 ?_ hlc hfit hM.hk (fun i j hi hj => ?_) hM.ht hM.hd hM.hs
                · rw [r3]; simp only [Nat.zero_add, Nat.zero_mul, Nat.add_zero] at hs ⊢; exact hs
                · have := hM.hv i j hi hj
                  rw [← this]; congr 1; omega
              exact hO.mono (fun b hb hlt => ⟨⟨hlt, fun _ => hb⟩, rfl⟩) (fun b hb _ => ⟨⟨id, lo, _, _, c, hjc, hju, hc0, hb⟩, rfl⟩)
      | _ => simp [mutCell] at h2
    have hdis : ∀ j j' x, Sub j x → Sub j' x → j = j' := by
      rintro j j' x ⟨id, lo, len, ad, c, h1, _, _, h2⟩ ⟨id', lo', len', ad', c', h1', _, _, h2'⟩
      rw [h2] at h2'; cases h2'
      exact nodupN_at hnd h1 h1'
    have hmm : ResRep1 w (Sees w g true) (fun b => (if L b then some 0 else (none : Option Nat)) = some 0) (.agg ts) (.agg cs) :=
      ⟨cs, rfl, by rw [htl]; exact hcs, Sub, hOw, hdis, fun j x hx => if_pos ⟨j, hx⟩⟩
    obtain ⟨_, q2⟩ := muArgs_ok (L := L) h hmm has hl hr hvj hnr
    have hin : ∀ i, I i → ∃ ob ob1, st.obj i = some ob ∧ st1.obj i = some ob1 ∧ ob1.box = ob.box ∧ ob1.k = ob.k ∧ ob.ep < ob1.ep := by
      intro i hi
      obtain ⟨j, p, ep, lo, len, hjc⟩ := cellIds_at hi
      obtain ⟨rfl, rfl, _⟩ := hpl j i p ep lo len hjc
      obtain ⟨ob, rows, r1, r2, r3⟩ := R.put j i 1 lo len hjc
      exact ⟨ob, _, r1, r3, rfl, rfl, Nat.lt_succ_self _⟩
    obtain ⟨p1, p2⟩ := mu_gen (I := I) (L := L) h hF hG hFn hL hvj has hFa hFz (Av := Sees w g true) (fun b hb => ⟨hb.1, aN b (hb.2 rfl)⟩) (fun b hb hlt => ⟨hlt, fun _ => hb⟩) (fun b hb => hb.2 rfl) q2 R.tm R.pr R.len R.oth hin (by
      intro w' lab' hAft hRes
      obtain ⟨cs', e, hsz, Sub', hO', hd', hs'⟩ := hRes
      cases e
      have hlen : ∀ (j id lo len : Nat) ob rows, cells[j]? = some (.n id [] 1 lo len) → st.obj id = some ob → ts'[j]? = some (.s true ob.k rows) → rows.length = ob.rows.length := by
        intro j id lo len ob rows hjc hob hts'
        obtain ⟨ob2, ad, c, hob2, _, _, hu, _⟩ := hval j id lo len hjc
        rw [hob] at hob2; cases hob2
        obtain ⟨x, c', e⟩ := (hO' j _ _ hts' hu).slice
        injection e with _ e _
        exact e.symm
      refine ⟨fun i b => ∃ (j lo len : Nat) (ad : Option Addr) (c : Nat), cells[j]? = some (.n i [] 1 lo len) ∧ cs[j]? = some (.slice ad len c) ∧ c ≠ 0 ∧ Sub' j b, ?_, ?_, ?_, ?_⟩
      · rintro i b ⟨j, lo, len, ad, c, h1, _, _, h2⟩
        exact ⟨cellIds_mem h1, hs' j b h2⟩
      · rintro i i' b ⟨j, lo, len, ad, c, h1, _, _, h2⟩ ⟨j', lo', len', ad', c', h1', _, _, h2'⟩
        have := hd' _ _ _ h2 h2'
        subst this
        rw [h1] at h1'; cases h1'; rfl
      · intro i ob ob1 hi hob hob1
        obtain ⟨j, p, ep, lo, len, hjc⟩ := cellIds_at hi
        obtain ⟨rfl, rfl, _⟩ := hpl j i p ep lo len hjc
        obtain ⟨ob', rows, r1, r2, r3⟩ := R.put j i 1 lo len hjc
        rw [hob] at r1; cases r1
        rw [hob1] at r3; cases r3
        exact hlen j i lo len ob rows hjc hob r2
      · intro g1 e1 e2 e3 hown hold hback hA hA' hbs i ob1 hi hob1
        obtain ⟨j, p, ep, lo, len, hjc⟩ := cellIds_at hi
        obtain ⟨rfl, rfl, _⟩ := hpl j i p ep lo len hjc
        obtain ⟨ob, rows, r1, r2, r3⟩ := R.put j i 1 lo len hjc
        rw [hob1] at r3; cases r3
        obtain ⟨ob2, ad, c, hob2, hbox, _, hu, rfl, hlc, _, hc⟩ := hval j i lo len hjc
        rw [r1] at hob2; cases hob2
        have hnL : c = 0 → ∀ b, g.lab b = some i → ¬ L b := by
          rintro rfl b hb ⟨j', id', lo', len', ad', c', h1, h2, h3, h4⟩
          rw [hb] at h4; cases h4
          have := nodupN_at hnd hjc h1
          subst this
          rw [hu] at h2
          cases h2
          exact h3 rfl
        refine turn1 h r1 hbox hlc hc e1 e2 e3 (fun hc0 b hb => hown i b ⟨j, lo, _, ad, c, hjc, hu, hc0, hb⟩) ?_ (fun hc0 hlb => ?_) (fun hc0 hlb => ?_) hbs
        · exact (hO' j _ _ r2 hu).mono (fun b hb _ => ⟨by
            rcases hb with hb | ⟨hb1, hb2⟩
            · exact hA b (hb.2 rfl) hb.1
            · exact hA' b hb1 hb2, rfl⟩) (fun b hb _ => ⟨hb, rfl⟩)
        · have := hold _ (h.lab _ _ hlb).1 (hnL hc0 _ hlb)
          exact ⟨by rw [this.1]; exact hlb, this.2⟩
        · rcases hback _ i hi hlb with ⟨j', lo', len', ad', c', h1, h2, h3, _⟩ | ⟨_, _, h3⟩
          · have := nodupN_at hnd hjc h1
            subst this
            rw [hu] at h2
            cases h2
            exact absurd hc0 h3
          · exact h3)
    refine ⟨p1, p2.mono ?_⟩
    rintro e w' ⟨v, he, hall⟩
    obtain ⟨st', av, g', r1, r2, r3, r4⟩ := hall K hK1
    exact ⟨v, st', av, g', he, r1, r2, r3, r4⟩

/-- A call to which an argument is given away. -/
theorem muK_ok (h : RepSt w g st N pv a) (hF : Fr w0 A0 w g) {P : Program} (hG : GOk P w0 (A0.G w0)) {F : Nat → List AV → Out → Prop} (hFn : ∀ f as out, F f as out → FnOk P f as out) {f : Nat} {args : List AV} {vals : Array Value}
    (hl : vals.toList.length = args.length) (hr : ∀ (j : Nat) x u, args[j]? = some x → vals.toList[j]? = some u → RepAV w g st x u) {K : St → AV → Prop} {j : Nat} (hK : muK F f args j st K args[j]?) :
    (∃ fn, P.funcs[f]? = some fn ∧ (fn.name == "runtime.NumGoroutine") = false ∧ fn.body.isSome = true) ∧
    Calls P f vals w fun e w' => ∃ v st' av g', e = .returned v ∧ K st' av ∧ RepSt w' g' st' N pv a ∧ RepAV w' g' st' av v ∧ Fr w0 A0 w' g' := by
  unfold muK at hK
  split at hK
  rotate_left
  · exact hK.elim
  rename_i id ep lo len hj
  obtain ⟨vj, hvj⟩ : ∃ vj, vals.toList[j]? = some vj := by
    have := (List.getElem?_eq_some_iff.1 hj).1
    exact ⟨_, List.getElem?_eq_getElem (by omega)⟩
  have hrep := hr j _ _ hj hvj
  split at hK
  rotate_left
  · exact hK.elim
  rename_i ob hob
  obtain ⟨hb, hK2⟩ := hK.get
  clear hK
  simp only [Bool.and_eq_true, Bool.not_eq_true'] at hb
  have hep := Nat.eq_of_beq_eq_true hb.2
  subst hep
  split at hK2
  rotate_left
  · exact hK2.elim
  rename_i as has
  obtain ⟨as', res, hFa, hFz, hK2⟩ := hK2
  obtain ⟨hnr, hK⟩ := hK2.get
  have hext : extCell st (.n id [] 1 lo len) = some (.s true ob.k ob.rows, st.kill id) := by
    simp only [extCell, hob, hb.1, cond_false]
    rfl
  obtain ⟨kl, L, hO, hLs⟩ := extCell_ok h hext hrep
  have hL : ∀ b, L b → g.lab b = some id := by
    intro b hb
    obtain ⟨i, h1, ⟨ob', h2⟩, h3⟩ := hLs b hb
    by_cases he : i = id
    · subst he; exact h1
    · exfalso
      have : (st.kill id).obj i = st.obj i := by
        unfold St.kill St.obj
        simp [List.getElem?_set, Ne.symm he]
      rw [this, h2] at h3
      cases h3
  have h' := h.kills kl
  have hCn := hFn f as' _ hFa
  have aN : ∀ b, g.A b → ¬ L b := fun b hb hh => by have h1 := hb.1; rw [hL b hh] at h1; cases h1
  have hm : ResRep1 w (Sees w g true) (fun b => (if L b then some 0 else (none : Option Nat)) = some 0) (.one (.s true ob.k ob.rows)) vj :=
    (hO.mono (fun b hb hlt => ⟨⟨hlt, fun _ => hb⟩, rfl⟩) (S' := fun b => (if L b then some 0 else (none : Option Nat)) = some 0) (fun b hb _ => ⟨if_pos hb, rfl⟩))
  obtain ⟨_, q2⟩ := muArgs_ok (L := L) h' hm has hl (fun j x u hj hu => (hr j x u hj hu).keeps (Keeps.kills kl)) hvj hnr
  let lab : Nat → Option Nat := fun b => if L b then some 0 else none
  have labL : ∀ b, L b → lab b = some 0 := fun b hb => if_pos hb
  have labN : ∀ b, ¬ L b → lab b = none := fun b hb => if_neg hb
  have hAl : ∀ b, Sees w g true b → b < w.heap.size ∧ lab b = none := fun b hb => ⟨hb.1, labN b (aN b (hb.2 rfl))⟩
  refine ⟨hCn.fn, (hCn.run w (Sees w g true) lab vals (hFz.args q2) hAl (fun b i hb => ?_) ((hF.gok hG).mono fun b hb hlt => ⟨⟨hlt, fun _ => hb⟩, hlt, rfl⟩)).mono ?_⟩
  · by_cases hh : L b
    · exact (h.lab b id (hL b hh)).1
    · rw [labN b hh] at hb; cases hb
  rintro e w' ⟨v, lab', rfl, hAft, hRes, _⟩
  obtain ⟨n, hn⟩ : ∃ n, n = as'.length := ⟨_, rfl⟩
  rw [← hn] at hRes
  have hx : ∀ b, g.X b → b < w.heap.size := fun b hb => by
    have := hF.x.2 b (by rw [← hF.x.1]; exact hb)
    have := hF.size
    omega
  let g1 := g.mut w.heap.size n (st.kill id).ob.length id L False lab'
  have old : ∀ b, b < w.heap.size → ¬ L b → g1.lab b = g.lab b := fun b hb hb2 => if_pos ⟨hb, hb2⟩
  have new : ∀ b, ¬ (b < w.heap.size ∧ ¬ L b) → g1.lab b = if lab' b = some n then some (st.kill id).ob.length else none := fun b hb => by
    simp only [g1, Gh.mut]
    rw [if_neg hb, if_neg (fun h => h.1)]
  have same : ∀ b, b < w.heap.size → ¬ L b → w'.heap[b]? = w.heap[b]? := fun b hb hb2 => (hAft.blk b hb (labN b hb2)).1
  have notL : ∀ i, i ≠ id → ∀ b, g.lab b = some i → ¬ L b := fun i hi b hb hh => by rw [hL b hh] at hb; cases hb; exact hi rfl
  have hne : ∀ i ob', (st.kill id).obj i = some ob' → i ≠ id := by
    rintro i ob' ho rfl
    have : (st.kill i).obj i = none := by
      unfold St.kill St.obj
      simp [obj_lt hob]
    rw [this] at ho; cases ho
  have hKp : Keeps w g (st.kill id) w' g1 (st.kill id).pad := by
    refine ⟨fun b hb hlt => ⟨⟨by rw [old b hlt (aN b hb)]; exact hb.1, hb.2⟩, same b hlt (aN b hb)⟩, by simp [St.pad], fun i ob' hid ho => ?_, fun i ob' hid ho ob1 h1 => ?_, fun i ob' hid ho => ⟨rfl, rfl, rfl, fun hlb => ?_⟩⟩
    · rw [obj_pad] at ho; exact ⟨ob', ho, rfl, rfl, rfl⟩
    · rw [obj_pad, h1] at ho
      cases ho
      exact ⟨Nat.le_refl _, fun _ _ hl2 => same _ (h.lab _ _ hl2).1 (notL i (hne i _ h1) _ hl2)⟩
    · rw [obj_pad] at ho
      rw [old _ (h.lab _ _ hlb).1 (notL i (hne i _ ho) _ hlb)]; exact hlb
  have hRp : RepSt w' g1 (st.kill id).pad N pv a := by
    refine ⟨h'.size, h'.defers, fun k => (h'.tm k).keeps hKp, fun i ob' ho => ?_, fun b i hb => ?_, h'.pr.1, fun i t u hi hu => (h'.pr.2 i t u hi hu).keeps hKp⟩
    · rw [obj_pad] at ho
      have hid := obj_lt ho
      have hni := hne i _ ho
      refine (h'.ob i ob' ho).keeps hKp ⟨rfl, rfl, rfl⟩ (fun x hx hlt => ⟨by rw [old x hlt (notL i hni x hx)]; exact hx, same x hlt (notL i hni x hx)⟩) (fun hn2 hh => ?_)
      have hh : g1.lab (g.β i) = some i := hh
      by_cases hb : g.β i < w.heap.size ∧ ¬ L (g.β i)
      · rw [old _ hb.1 hb.2] at hh; exact hn2 hh
      · rw [new _ hb] at hh
        split at hh
        · cases hh; omega
        · cases hh
    · by_cases hlt : b < w.heap.size ∧ ¬ L b
      · rw [old b hlt.1 hlt.2] at hb
        have := h'.lab b i hb
        have := hAft.size
        exact ⟨by omega, by simp [St.pad]; omega⟩
      · rw [new b hlt] at hb
        split at hb
        · rename_i hlb
          cases hb
          exact ⟨hAft.lt b _ hlb, by simp [St.pad]⟩
        · cases hb
  have hpool : Pool g1 (st.kill id).pad (fun b => lab' b = some n) := by
    intro b hb
    have hnot : ¬ (b < w.heap.size ∧ ¬ L b) := fun hlt => by have := (hAft.blk b hlt.1 (labN b hlt.2)).2; rw [hb] at this; cases this
    refine ⟨(st.kill id).ob.length, by rw [new b hnot, if_pos hb], ?_⟩
    rw [obj_pad]
    simp [St.obj]
  have newA : ∀ b, w.heap.size ≤ b → lab' b = none → g1.A b := fun b hge hnone => by
    refine ⟨by rw [new b (by omega), hnone]; simp, fun hX => ?_⟩
    have := hx b hX
    omega
  obtain ⟨st2, av2, g2, hK2, hIn, hAV⟩ := inRes_ok hRp (A := Out.A ⟨res, [.one .h], [], false⟩ w.heap.size (Sees w g true) lab') (S := fun b => lab' b = some n) (fun b hb => by
    rcases hb with ⟨ha, _⟩ | ⟨hge, hnone⟩
    · cases ha
    · exact newA b hge hnone) hpool hRes hK
  refine ⟨v, st2, av2, g2, rfl, hK2, hIn.rep, hAV, ?_⟩
  refine ⟨hAft.os.trans hF.os, hAft.tape.trans hF.tape, hAft.output.trans hF.output, Nat.le_trans hF.size hAft.size, ⟨hIn.X.trans hF.x.1, hF.x.2⟩, fun b hb hA => ?_, fun b hb => (hAft.bs b (Nat.lt_of_lt_of_le hb hF.size)).trans (hF.bs b hb)⟩
  obtain ⟨p1, p2⟩ := hF.blk b hb hA
  have hlt : b < w.heap.size := Nat.lt_of_lt_of_le hb hF.size
  have hnL : ¬ L b := fun hh => by rw [hL b hh] at p2; cases p2
  exact ⟨(same b hlt hnL).trans p1, hIn.none b (by rw [old b hlt hnL]; exact p2)⟩

theorem flatOw {A S : Nat → Prop} (hA : ∀ b, g.A b → b < w.heap.size → A b) {t : T} {u : Value} (hf : t.flatB = true) (h : RepT w g st t u) : Ow w A S u t := by
  cases t with
  | v x =>
    have e : u = x := h.2
    subst e
    exact .v _ _ h.1
  | s o k rows =>
    cases o with
    | true => cases hf
    | false => exact .f _ _ _ _ (Fz.mono (fun b hb hlt => ⟨hA b hb hlt, rfl⟩) (show Fz w g.A u (.s false k rows) from h.2))
  | _ => cases hf
theorem flatRep {A S : Nat → Prop} (hA : ∀ b, A b → b < w.heap.size → g.A b) {t : T} {u : Value} (hf : t.flatB = true) (h : Ow w A S u t) : RepT w g st t u := by
  refine ⟨h.one, ?_⟩
  cases h with
  | v => rfl
  | f S x k rows hz => exact hz.mono (fun b hb hlt => ⟨hA b hb hlt, rfl⟩)
  | _ => cases hf
/-- A call to which a variable is handed on by its address. -/
theorem muB_ok (h : RepSt w g st N pv a) (hF : Fr w0 A0 w g) {P : Program} (hG : GOk P w0 (A0.G w0)) {F : Nat → List AV → Out → Prop} (hFn : ∀ f as out, F f as out → FnOk P f as out) {f : Nat} {args : List AV} {vals : Array Value}
    (hl : vals.toList.length = args.length) (hr : ∀ (j : Nat) x u, args[j]? = some x → vals.toList[j]? = some u → RepAV w g st x u) {K : St → AV → Prop} {j id ep : Nat} (hj : args[j]? = some (.one (.p id [] ep 0 0))) (hK : muB F f args j st K id (st.obj id)) :
    (∃ fn, P.funcs[f]? = some fn ∧ (fn.name == "runtime.NumGoroutine") = false ∧ fn.body.isSome = true) ∧
    Calls P f vals w fun e w' => ∃ v st' av g', e = .returned v ∧ K st' av ∧ RepSt w' g' st' N pv a ∧ RepAV w' g' st' av v ∧ Fr w0 A0 w' g' := by
  obtain ⟨vj, hvj⟩ : ∃ vj, vals.toList[j]? = some vj := by
    have := (List.getElem?_eq_some_iff.1 hj).1
    exact ⟨_, List.getElem?_eq_getElem (by omega)⟩
  have hrep := hr j _ _ hj hvj
  cases hob : st.obj id with
  | none => rw [hob] at hK; exact hK.elim
  | some ob =>
    rw [hob] at hK
    unfold muB at hK
    obtain ⟨hb, hK⟩ := hK.get
    simp only [Bool.and_eq_true] at hb
    obtain ⟨hbox, hflat⟩ := hb
    split at hK
    rotate_left
    · exact hK.elim
    rename_i as has
    obtain ⟨as', row', res, hFa, hFz, hK⟩ := hK
    obtain ⟨hb, hK⟩ := hK.get
    simp only [Bool.and_eq_true] at hb
    obtain ⟨hnr, hflat', hlen⟩ := hb
    have hlen := Nat.eq_of_beq_eq_true hlen
    obtain ⟨hid, hr2⟩ := (show RepL w g st (.p id [] ep 0 0) vj from hrep.2)
    obtain ⟨hv, hlb, _⟩ := hr2 ob hob
    have hRO := h.ob id ob hob
    unfold RepOb at hRO
    rw [hbox] at hRO
    obtain ⟨cs, e, row, q1, q2, q3, q4, q5, q6, q7⟩ := hRO
    rw [q1] at hflat has hlen
    have hrow : rowAt [row] 0 = row := rfl
    rw [hrow] at hflat has hlen
    have hv : vj = .pointer (some ⟨g.β id, 0, none⟩) := by rw [hv, q5]; simp
    subst hv
    have hβ := (h.lab _ _ hlb).1
    obtain ⟨L, hL⟩ : ∃ L : Nat → Prop, ∀ b, L b ↔ b = g.β id := ⟨_, fun _ => Iff.rfl⟩
    have aN : ∀ b, g.A b → b ≠ g.β id := fun b hb e => by have h1 := hb.1; rw [e, hlb] at h1; cases h1
    have hm : ResRep1 w (Sees w g true) (fun b => (if L b then some 0 else (none : Option Nat)) = some 0) (.one (.b row)) (.pointer (some ⟨g.β id, 0, none⟩)) := by
      refine ⟨g.β id, cs, e, rfl, q3, if_pos ((hL _).2 rfl), q7.1, fun _ _ => False, fun j t u hj hu => ?_, fun _ _ _ h => h.elim, fun _ _ h => h.elim⟩
      exact flatOw (fun b hb hlt => ⟨hlt, fun _ => hb⟩) ((List.all_eq_true.1 hflat) t (List.mem_of_getElem? hj)) (q7.2 j t u hj hu)
    obtain ⟨_, r2⟩ := muArgs_ok (L := L) h hm has hl hr hvj hnr
    have hsame : ({ st with ob := st.ob.set id (some { ob with rows := [row'], ep := ob.ep + 1 }) } : St).obj id = some { ob with rows := [row'], ep := ob.ep + 1 } := obj_set_same hid
    obtain ⟨p1, p2⟩ := mu_gen (I := fun i => i = id) (L := L) (st1 := { st with ob := st.ob.set id (some { ob with rows := [row'], ep := ob.ep + 1 }) }) h hF hG hFn (fun b hb => ⟨id, rfl, by rw [(hL b).1 hb]; exact hlb⟩) hvj has hFa hFz (Av := Sees w g true)
      (fun b hb => ⟨hb.1, fun q => aN b (hb.2 rfl) ((hL b).1 q)⟩) (fun b hb hlt => ⟨hlt, fun _ => hb⟩) (fun b hb => hb.2 rfl) r2 rfl rfl (by simp) (fun i hi => obj_set_other hi)
      (fun i hi => by subst hi; exact ⟨ob, _, hob, hsame, rfl, rfl, Nat.lt_succ_self _⟩) (by
      intro w' lab' hAft hRes
      obtain ⟨b, cs', e', hp, hh, hlb', hsz', Sub', hO', _, _⟩ := (show OwBox w' _ _ row' _ from hRes)
      injection hp with hp; injection hp with hp; injection hp with hp
      subst hp
      refine ⟨fun i b => i = id ∧ b = g.β id, ?_, ?_, ?_, ?_⟩
      · rintro i b ⟨rfl, rfl⟩; exact ⟨rfl, hlb'⟩
      · rintro i i' b ⟨rfl, _⟩ ⟨rfl, _⟩; rfl
      · intro i ob0 ob1 hi h1 h2
        subst hi
        rw [hob] at h1; cases h1
        rw [hsame] at h2; cases h2
        rw [q1]; rfl
      · intro g1 e1 e2 e3 hown hold hback hA hA' hbs i ob1 hi hob1
        subst hi
        rw [hsame] at hob1; cases hob1
        have hl1 : g1.lab (g.β i) = some i := hown i _ ⟨rfl, rfl⟩
        refine ⟨?_, fun _ => hl1⟩
        unfold RepOb
        simp only [hbox]
        refine ⟨cs', e', row', rfl, by rw [q2, hlen], by rw [e1]; exact hh, by rw [e1]; exact hl1, by rw [e2]; exact q5, ?_, hsz', fun j t u hj hu => ?_⟩
        · rw [e3, ← q6]
          have := hbs _ hβ
          unfold bsz at this
          rw [hh, q3] at this
          simpa using this
        · exact flatRep (fun b hb _ => by
            rcases hb with hb | ⟨hb1, hb2⟩
            · exact hA b (hb.2 rfl) hb.1
            · exact hA' b hb1 hb2) ((List.all_eq_true.1 hflat') t (List.mem_of_getElem? hj)) (hO' j t u hj hu))
    refine ⟨p1, p2.mono ?_⟩
    rintro e w' ⟨v, he, hall⟩
    obtain ⟨st', av, g', r1, r2, r3, r4⟩ := hall K hK
    exact ⟨v, st', av, g', he, r1, r2, r3, r4⟩

/-- A call that turns one of its arguments in place. -/
theorem callM_ok (h : RepSt w g st N pv a) (hF : Fr w0 A0 w g) {P : Program} (hG : GOk P w0 (A0.G w0)) {F : Nat → List AV → Out → Prop} (hFn : ∀ f as out, F f as out → FnOk P f as out) {f : Nat} {args : List AV} {vals : Array Value}
    (hl : vals.toList.length = args.length) (hr : ∀ (j : Nat) x u, args[j]? = some x → vals.toList[j]? = some u → RepAV w g st x u) {K : St → AV → Prop} (hK : callM F f args st K) :
    (∃ fn, P.funcs[f]? = some fn ∧ (fn.name == "runtime.NumGoroutine") = false ∧ fn.body.isSome = true) ∧
    Calls P f vals w fun e w' => ∃ v st' av g', e = .returned v ∧ K st' av ∧ RepSt w' g' st' N pv a ∧ RepAV w' g' st' av v ∧ Fr w0 A0 w' g' := by
  obtain ⟨j, hK⟩ := hK
  unfold muT at hK
  split at hK
  · rename_i id ep lo len hj
    obtain ⟨vj, hvj⟩ : ∃ vj, vals.toList[j]? = some vj := by
      have := (List.getElem?_eq_some_iff.1 hj).1
      exact ⟨_, List.getElem?_eq_getElem (by omega)⟩
    have hrep := hr j _ _ hj hvj
    split at hK
    rotate_left
    · exact hK.elim
    rename_i ob hob
    obtain ⟨hb, hK⟩ := hK.get
    simp only [Bool.and_eq_true, Bool.not_eq_true'] at hb
    have hbox := hb.1
    have hep := Nat.eq_of_beq_eq_true hb.2
    have hfit := hrep.1
    obtain ⟨hid, hr2⟩ := (show RepL w g st (.n id [] ep lo len) vj from hrep.2)
    obtain ⟨_, hwh, ad, c, rfl, hlc, hlr, hc⟩ := hr2 ob hob
    obtain ⟨rfl, rfl⟩ := hwh hep
    have conc : ∀ {L : Nat → Prop} {live : Prop}, (∀ b, L b → g.lab b = some id) → Ow w g.A L (.slice ad ob.rows.length c) (.s true ob.k ob.rows) → (∀ (w' : World) (g1 : Gh) (rows' : List (List T)) (S' : Nat → Prop), g1.β = g.β → g1.ω = g.ω → g1.sz = g.sz → (live → ∀ b, S' b → g1.lab b = some id) → (∀ b, S' b → L b ∨ w.heap.size ≤ b) →
      (∀ b, b < w.heap.size → ¬ L b → g1.lab b = g.lab b ∧ w'.heap[b]? = w.heap[b]?) → (¬ live → ∀ b, w.heap.size ≤ b → g1.lab b ≠ some id) → (∀ b, g.A b → b < w.heap.size → g1.A b) → (∀ b, b < w.heap.size → bsz w' b = bsz w b) →
      Ow w' g1.A S' (.slice ad ob.rows.length c) (.s true ob.k rows') → rows'.length = ob.rows.length →
      RepOb w' g1 st id { ob with rows := rows', ep := ob.ep + 1 } ∧ (g.lab (g.β id) = some id → g1.lab (g.β id) = some id)) → (∃ fn, P.funcs[f]? = some fn ∧ (fn.name == "runtime.NumGoroutine") = false ∧ fn.body.isSome = true) ∧
    Calls P f vals w fun e w' => ∃ v st' av g', e = .returned v ∧ K st' av ∧ RepSt w' g' st' N pv a ∧ RepAV w' g' st' av v ∧ Fr w0 A0 w' g' := by
      intro L live hL hO post
      obtain ⟨as, as', rows', res, has, hFa, hFz, hKc, Av, hA1, hA2, hA3, q2⟩ := muC_split h hl hr hob hbox hL hvj hO hK
      obtain ⟨p1, p2⟩ := mu_core h hF hG hFn hl hr hob hbox hL hvj hO has hFa hFz hA1 hA2 hA3 q2 (R := rows') (fun e => e) (live := live) (fun w' g1 S' => post w' g1 rows' S')
      refine ⟨p1, p2.mono ?_⟩
      rintro e w' ⟨v, he, hall⟩
      obtain ⟨st', av, g', r1, r2, r3, r4⟩ := hall K hKc
      exact ⟨v, st', av, g', he, r1, r2, r3, r4⟩
    have hRO := h.ob id ob hob
    unfold RepOb at hRO
    rw [hbox] at hRO
    by_cases hc0 : c = 0
    · subst hc0
      have hr0 : ob.rows = [] := List.eq_nil_of_length_eq_zero (by omega)
      refine conc (L := fun _ => False) (live := False) (fun _ h => h.elim) (by rw [hr0]; exact .nil _ _ _) (fun w' g1 rows' S' e1 e2 e3 _ hS hold hnew hA hbs hOw hlen => ?_)
      have hr1 : rows' = [] := List.eq_nil_of_length_eq_zero (by omega)
      subst hr1
      have hlab : g.lab (g.β id) = some id → g1.lab (g.β id) = some id := fun hh => by rw [(hold _ (h.lab _ _ hh).1 (fun x => x)).1]; exact hh
      refine ⟨?_, hlab⟩
      unfold RepOb
      simp only [hbox]
      by_cases hlb : g.lab (g.β id) = some id
      · rcases hRO with ⟨_, hn⟩ | ⟨cs, e, vals', Sub, r1, r2, r3, r4, hM⟩
        · exact absurd hlb hn
        · refine .inr ⟨cs, e, vals', fun _ _ _ => False, by rw [e1, (hold _ (h.lab _ _ hlb).1 (fun x => x)).2]; exact r1, by rw [e1]; exact hlab hlb, by rw [e3]; exact r3, by rw [e2]; simp only [List.length_nil]; omega, ⟨fun r hr => (by cases hr), fun i j hi => (by simp at hi), fun i j r t hr => (by simp at hr), fun _ _ _ _ _ hh => hh.elim, fun _ _ _ hh => hh.elim⟩⟩
      · refine .inl ⟨by first | rfl | trivial, fun hh => ?_⟩
        rw [e1] at hh
        by_cases hlt : g.β id < w.heap.size
        · rw [(hold _ hlt (fun hh => hh)).1] at hh; exact hlb hh
        · exact hnew (fun hh => hh) _ (by omega) hh
    · rcases hc with hc | ⟨rfl, hlb, hs⟩
      · exact absurd hc hc0
      · rcases hRO with ⟨_, hn⟩ | ⟨cs, e, vals', Sub, r1, r2, r3, r4, hM⟩
        · exact absurd hlb hn
        · have hO : Ow w g.A (fun x => g.lab x = some id) (.slice (some ⟨g.β id, g.ω id + 0 * ob.k, none⟩) ob.rows.length c) (.s true ob.k ob.rows) := by
            refine .s _ _ _ c ob.k _ vals' Sub cs e r2 r1 ?_ hlc hfit hM.hk (fun i j hi hj => ?_) hM.ht hM.hd hM.hs
            · rw [r3]; simp only [Nat.zero_add, Nat.zero_mul, Nat.add_zero] at hs ⊢; exact hs
            · have := hM.hv i j hi hj
              rw [← this]; congr 1; omega
          refine conc (L := fun x => g.lab x = some id) (live := True) (fun _ h => h) hO (fun w' g1 rows' S' e1 e2 e3 hS1 hS hold hnew hA hbs hOw hlen => ?_)
          rw [← hlen] at hOw
          generalize hvv : Value.slice (some ⟨g.β id, g.ω id + 0 * ob.k, none⟩) rows'.length c = vv at hOw
          cases hOw with
          | nil _ ad => simp at hvv; omega
          | s _ b f c' _ _ vals2 Sub2 cs2 e2' q1 q2 q3 q4 q5 q6 q7 q8 q9 q10 =>
            injection hvv with hv1 hv2 hv3
            injection hv1 with hv1
            injection hv1 with hv1 hv4
            subst hv1
            subst hv3
            subst hv4
            have hb1 : g1.lab (g.β id) = some id := hS1 trivial _ q1
            refine ⟨?_, fun _ => hb1⟩
            have hsz : cs2.size = cs.size := by
              have := hbs _ (h.lab _ _ hlb).1
              unfold bsz at this
              rw [q2, r1] at this
              simpa using this
            unfold RepOb
            simp only [hbox]
            refine .inr ⟨cs2, e2', vals2, Sub2, by rw [e1]; exact q2, by rw [e1]; exact hb1, by rw [e3, hsz]; exact r3, ?_, q6, fun i j hi hj => ?_, q8, q9, fun i j x hx => ⟨hS1 trivial _ (q10 i j x hx).1, by rw [e1]; exact (q10 i j x hx).2⟩⟩
            · rw [e2]
              have := Nat.mul_le_mul_right ob.k q4
              omega
            · have := q7 i j hi hj
              rw [e2, ← this]; congr 1; omega
  · rename_i id row off ep lo len hj
    obtain ⟨vj, hvj⟩ : ∃ vj, vals.toList[j]? = some vj := by
      have := (List.getElem?_eq_some_iff.1 hj).1
      exact ⟨_, List.getElem?_eq_getElem (by omega)⟩
    have hrep := hr j _ _ hj hvj
    split at hK
    rotate_left
    · exact hK.elim
    rename_i ob hob
    obtain ⟨hb, hK⟩ := hK.get
    simp only [Bool.and_eq_true, Bool.not_eq_true'] at hb
    have hbox := hb.1
    have hep := Nat.eq_of_beq_eq_true hb.2
    obtain ⟨hid, hr2⟩ := (show RepL w g st (.n id [(row, off)] ep lo len) vj from hrep.2)
    obtain ⟨_, hr3⟩ := hr2 ob hob hbox
    obtain ⟨hlb, hcell, hlt⟩ := hr3 hep
    have hRO := h.ob id ob hob
    unfold RepOb at hRO
    rw [hbox] at hRO
    rcases hRO with ⟨_, hn⟩ | ⟨cs, e, vals', Sub, r1, r2, r3, r4, hM⟩
    · exact absurd hlb hn
    have hrow : ob.rows[row]? = some (rowAt ob.rows row) := by simp [rowAt, List.getD, hlt]
    have hK := hK _ (fun _ => hrow)
    unfold muP at hK
    split at hK
    rotate_left
    · exact hK.elim
    rename_i k rows2 tl hd
    have hj : (rowAt ob.rows row)[off]? = some (.s true k rows2) := by
      have := congrArg (fun l => l[0]?) hd
      simpa [List.getElem?_drop] using this
    have hrl : (rowAt ob.rows row).length = ob.k := hM.hk _ (List.mem_of_getElem? hrow)
    have hoff : off < ob.k := by have := (List.getElem?_eq_some_iff.1 hj).1; omega
    have hv := hM.hv row off hlt hoff
    have hO := hM.ht row off _ _ hrow hj
    have hve : vj = vals' row off := by
      simp [World.cell?, r1, hv] at hcell
      exact hcell.symm
    subst hve
    obtain ⟨as, as', rows', res, has, hFa, hFz, hKc, Av, hA1, hA2, hA3, q2⟩ := muC_split h hl hr hob hbox (L := Sub row off) (fun b hb => (hM.hs _ _ _ hb).1) hvj hO hK
    obtain ⟨p1, p2⟩ := mu_core h hF hG hFn hl hr hob hbox (L := Sub row off) (fun b hb => (hM.hs _ _ _ hb).1) hvj hO has hFa hFz hA1 hA2 hA3 q2 (R := ob.rows.set row (fillRow (rowAt ob.rows row) off [.s true k rows'])) (fun _ => by simp) (live := True) (fun w' g1 S' e1 e2 e3 hS1 hS hold hnew hA hbs hOw hlen => by
      have hbL : ¬ Sub row off (g.β id) := fun hh => (hM.hs _ _ _ hh).2 rfl
      have hbold := hold _ (h.lab _ _ hlb).1 hbL
      have hb1 : g1.lab (g.β id) = some id := by rw [hbold.1]; exact hlb
      refine ⟨?_, fun _ => hb1⟩
      unfold RepOb
      simp only [hbox]
      have hfl : (fillRow (rowAt ob.rows row) off [.s true k rows']).length = ob.k := by rw [fillRow_len (by simp; omega)]; exact hrl
      have hnL : ∀ i j x, ¬ (i = row ∧ j = off) → Sub i j x → ¬ Sub row off x := fun i j x hne hx hx2 => hne (hM.hd _ _ _ _ _ hx hx2)
      refine .inr ⟨cs, e, vals', fun i j => if i = row ∧ j = off then S' else Sub i j, by rw [e1, hbold.2]; exact r1, by rw [e1]; exact hb1, by rw [e3]; exact r3, by rw [e2]; simp only [List.length_set]; exact r4, ⟨fun r hr => ?_, fun i j hi hj => ?_, fun i j r t hr ht => ?_, fun i j i' j' x hx hx' => ?_, fun i j x hx => ?_⟩⟩
      · rcases List.mem_or_eq_of_mem_set hr with hr | rfl
        · exact hM.hk r hr
        · exact hfl
      · rw [e2]; exact hM.hv i j (by simpa using hi) hj
      · have old : ¬ (i = row ∧ j = off) → ∀ r0, ob.rows[i]? = some r0 → r0[j]? = some t → Ow w' g1.A ((fun i j => if i = row ∧ j = off then S' else Sub i j) i j) (vals' i j) t := by
          intro hne r0 h1 h2
          simp only [if_neg hne]
          refine (hM.ht i j _ _ h1 h2).mono (fun b hb hlt => ⟨hA b hb hlt, (hold b hlt (fun hh => by have h5 := hb.1; rw [(hM.hs _ _ _ hh).1] at h5; cases h5)).2⟩) (fun x hx hlt => ⟨hx, (hold x hlt (hnL i j x hne hx)).2⟩)
        by_cases hi : i = row
        · subst hi
          rw [List.getElem?_set_self hlt] at hr
          cases hr
          rw [fillRow_get (by simp; omega)] at ht
          by_cases hjo : j = off
          · subst hjo
            simp at ht
            subst ht
            simp only [and_self, if_true]
            exact hOw
          · rw [if_neg (by simp; omega)] at ht
            exact old (fun hh => hjo hh.2) _ hrow ht
        · rw [List.getElem?_set_ne (by omega)] at hr
          exact old (fun hh => hi hh.1) _ hr ht
      · have two : ∀ i j, ¬ (i = row ∧ j = off) → S' x → Sub i j x → False := by
          intro i j hne h1 h2
          rcases hS x h1 with h3 | h3
          · exact hnL i j x hne h2 h3
          · have := (h.lab x id (hM.hs _ _ _ h2).1).1
            omega
        by_cases h1 : i = row ∧ j = off
        · by_cases h2 : i' = row ∧ j' = off
          · exact ⟨h1.1.trans h2.1.symm, h1.2.trans h2.2.symm⟩
          · simp only [if_pos h1, if_neg h2] at hx hx'
            exact (two _ _ h2 hx hx').elim
        · by_cases h2 : i' = row ∧ j' = off
          · simp only [if_neg h1, if_pos h2] at hx hx'
            exact (two _ _ h1 hx' hx).elim
          · simp only [if_neg h1, if_neg h2] at hx hx'
            exact hM.hd _ _ _ _ _ hx hx'
      · rw [e1]
        by_cases h1 : i = row ∧ j = off
        · simp only [if_pos h1] at hx
          refine ⟨hS1 trivial x hx, fun he => ?_⟩
          subst he
          rcases hS _ hx with h3 | h3
          · exact hbL h3
          · have := (h.lab _ _ hlb).1
            omega
        · simp only [if_neg h1] at hx
          obtain ⟨h3, h4⟩ := hM.hs _ _ _ hx
          refine ⟨?_, h4⟩
          rw [(hold x (h.lab _ _ h3).1 (hnL i j x h1 hx)).1]
          exact h3)
    refine ⟨p1, p2.mono ?_⟩
    rintro e w' ⟨v, he, hall⟩
    obtain ⟨st', av, g', r1, r2, r3, r4⟩ := hall K (hKc _ rfl)
    exact ⟨v, st', av, g', he, r1, r2, r3, r4⟩
  · rename_i cells hj
    exact muG_ok h hF hG hFn hl hr hj hK
  · rename_i id ep hj
    exact muB_ok h hF hG hFn hl hr hj hK
  · exact muK_ok h hF hG hFn hl hr hK
  · exact hK.elim
end Go.Ev
