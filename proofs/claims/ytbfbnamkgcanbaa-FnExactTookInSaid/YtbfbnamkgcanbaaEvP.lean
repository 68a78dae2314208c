/- Regions; the whole of it. -/
import Derived.Test.YtbfbnamkgcanbaaEvO
import Derived.Deep.LoopGhost
namespace Go.Ev
open Go
open Classical
variable {E : Env} {w w' w0 : World} {A0 : Fix} {g g' : Gh} {st st' : St} {N : Nat} {pv : List Value} {a : Act}

def DstOk (N : Nat) (d : Option Nat) : Prop := ∀ i, d = some i → i < N

/-- A guard. -/
theorem guardD_ok (h : RepSt w g st N pv a) {ops : Array Oper} {j : Nat} {want : Bool} {K : Bool → Prop} (hK : guardD st want K ((ops[j]?).bind (·.dst))) {o : Oper} (ho : o.guard = some (j, want)) :
    ∃ gb, K gb ∧ Region.wanted o (yielded ops a.tmps) = gb := by
  unfold Region.wanted
  rw [ho]
  simp only
  unfold yielded
  cases hd : (ops[j]?).bind (·.dst) with
  | none => rw [hd] at hK; exact hK.elim
  | some d =>
    rw [hd] at hK
    simp only [guardD] at hK
    have hr := h.tm d
    simp only [Option.bind_some]
    have hget : a.tmps.getD d undef = (a.tmps[d]?).getD undef := by simp
    rw [hget] at hr
    generalize a.tmps[d]? = x at hr
    unfold guardV at hK
    split at hK
    · rename_i b hav
      rw [hav] at hr
      refine ⟨_, hK, ?_⟩
      have e : x.getD undef = .bool b := hr.2
      cases x with
      | none => cases e
      | some v => cases (show v = .bool b from e); cases b <;> cases want <;> rfl
    · rename_i gd b hav
      rw [hav] at hr
      refine ⟨_, hK, ?_⟩
      cases gd with
      | true =>
        have e : x.getD undef = .bool b := (hr.1 rfl).2
        cases x with
        | none => cases e
        | some v => cases (show v = .bool b from e); cases b <;> cases want <;> rfl
      | false =>
        have e := hr.2 rfl
        cases x with
        | none => cases want <;> rfl
        | some v => cases (show v = undef from e); cases want <;> rfl
    · rename_i hav
      rw [hav] at hr
      refine ⟨_, hK, ?_⟩
      have e := hr.2 rfl
      cases x with
      | none => cases want <;> rfl
      | some v => cases (show v = undef from e); cases want <;> rfl
    · exact hK.elim

theorem gu_rep {gb : Bool} {av : AV} {v : Value} (h : gb = true → RepAV w g st av v) (h0 : gb = false → v = undef) : RepAV w g st (av.gu gb) v := by
  cases av with
  | one t => exact ⟨h, h0⟩
  | agg l => exact ⟨h, h0⟩
  | tup l => exact ⟨fun _ => trivial, h0⟩
  | may _ _ => exact ⟨fun _ => trivial, h0⟩
  | no => exact ⟨fun _ => trivial, h0⟩

theorem RepSt.pad (h : RepSt w g st N pv a) : RepSt w g st.pad N pv a := by
  have hK : Keeps w g st w g st.pad := by
    refine ⟨fun b hb _ => ⟨hb, rfl⟩, by simp [St.pad], fun id ob' hid ho => ?_, fun _ _ _ _ => ⟨rfl, rfl, rfl, fun h => h⟩⟩
    rw [obj_pad] at ho; exact ⟨ob', ho, rfl, rfl, rfl⟩
  refine ⟨h.size, h.defers, fun k => (h.tm k).keeps hK, fun id ob ho => ?_, fun b i hb => ?_, h.pr.1, fun i t u hi hu => (h.pr.2 i t u hi hu).keeps hK⟩
  · rw [obj_pad] at ho
    exact (h.ob id ob ho).keeps hK ⟨rfl, rfl, rfl⟩ (fun x hx _ => ⟨hx, rfl⟩) (fun h => h)
  · have := h.lab b i hb
    exact ⟨this.1, by simp [St.pad]; omega⟩

/-- The same state in a world that has grown. -/
theorem RepSt.up (h : RepSt w g st N pv a) (hu : Up w w') (hs : w.heap.size ≤ w'.heap.size) : RepSt w' g st N pv a := by
  have hK : Keeps w g st w' g st := ⟨fun b hb hlt => ⟨hb, hu b hlt⟩, Nat.le_refl _, fun id ob' _ ho => ⟨ob', ho, rfl, rfl, rfl⟩, fun _ _ _ _ => ⟨rfl, rfl, rfl, fun h => h⟩⟩
  refine ⟨h.size, h.defers, fun k => (h.tm k).keeps hK, fun id ob ho => ?_, fun b i hb => ?_, h.pr.1, fun i t u hi hu => (h.pr.2 i t u hi hu).keeps hK⟩
  · exact (h.ob id ob ho).keeps hK ⟨rfl, rfl, rfl⟩ (fun x hx hlt => ⟨hx, hu x hlt⟩) (fun h => h)
  · have := h.lab b i hb
    exact ⟨by omega, this.2⟩

theorem map_un_get {l : List AV} {j : Nat} {x : AV} (h : (l.map AV.un)[j]? = some x) : ∃ y, l[j]? = some y ∧ x = y.un := by
  rw [List.getElem?_map] at h
  cases hy : l[j]? with
  | none => rw [hy] at h; cases h
  | some y => rw [hy] at h; cases h; exact ⟨y, rfl, rfl⟩

/-- A call of what is read alone, that answers one plain value: what the machine does. -/
theorem callQ_ok (h : RepSt w g st N pv a) {P : Program} {F : Nat → List AV → Out → Prop} (hFn : ∀ f as out, F f as out → FnOk P f as out) {f : Nat} {args : Array Operand} {as : List AV} (has : roArgs st ((evs st args.toList).map AV.un) = some as)
    (hok : ∀ x ∈ evs st args.toList, x.ok true) {r : Value} (hF : F f as ⟨.one (.v r), [], [], false⟩) :
    (∃ fn, P.funcs[f]? = some fn ∧ (fn.name == "runtime.NumGoroutine") = false ∧ fn.body.isSome = true) ∧ r.oneCell' = true ∧
    ∀ w', Up w w' → w.heap.size ≤ w'.heap.size → Calls P f (args.map a.eval) w' fun e w2 => e = .returned r ∧ w2.os = w'.os ∧ w2.tape = w'.tape ∧ w2.output = w'.output ∧ w'.heap.size ≤ w2.heap.size ∧ Up w' w2 := by
  have hC := hFn _ _ _ hF
  have rd : ∀ w', Up w w' → w.heap.size ≤ w'.heap.size → Calls P f (args.map a.eval) w' fun e w2 => (e = .returned r ∧ r.oneCell' = true) ∧ w2.os = w'.os ∧ w2.tape = w'.tape ∧ w2.output = w'.output ∧ w'.heap.size ≤ w2.heap.size ∧ Up w' w2 := by
    intro w' hu hs
    obtain ⟨q1, q2⟩ := roArgs_ok (h.up hu hs) (al := false) (vs := (args.map a.eval).toList) has (by simp [evs_len]) (fun j x u hj hv => by
      obtain ⟨y, hy, rfl⟩ := map_un_get hj
      obtain ⟨o', h1, rfl⟩ := evs_get st _ j y hy
      simp only [Array.toList_map, List.getElem?_map, h1, Option.map_some, Option.some.injEq] at hv
      subst hv
      exact rep_un (rep_ev (h.up hu hs) o') (hok _ (List.mem_of_getElem? hy)) rfl) (fun ha => by cases ha)
    refine (hC.run w' _ (fun _ => none) (args.map a.eval) q2 (fun b hb => ⟨hb.1, rfl⟩) (fun b i hb => by cases hb)).mono ?_
    rintro e w2 ⟨v, lab', rfl, hAft, hRes, _⟩
    have hv : v.oneCell' = true ∧ v = r := by
      have : Ow w2 _ _ v (.v r) := hRes
      refine ⟨this.one, ?_⟩
      cases this
      rfl
    obtain ⟨hv1, rfl⟩ := hv
    exact ⟨⟨rfl, hv1⟩, hAft.os, hAft.tape, hAft.output, hAft.size, fun b hb => (hAft.blk b hb rfl).1⟩
  refine ⟨hC.fn, ?_, fun w' hu hs => (rd w' hu hs).mono fun e w2 hh => ⟨hh.1.1, hh.2⟩⟩
  obtain ⟨e, w2, fr, hR, _⟩ := rd w (.refl w) (Nat.le_refl _) []
  exact hR.1.2

theorem run_enter {P : Program} {ρ : Operand → Value} {o : Oper} {f : Nat} {args : Array Operand} {tys : Array TypeId} (ho : o.op = .call ⟨.value (.func f), args, tys⟩) (hρ : ρ (.func f) = .func (.func f) #[] #[]) (hfn : ∃ fn, P.funcs[f]? = some fn ∧ (fn.name == "runtime.NumGoroutine") = false ∧ fn.body.isSome = true) (w : World) :
    (execOp ρ o).run P w = .ok (.enter f (args.map ρ)) w := by
  obtain ⟨fn, q1, q2, q3⟩ := hfn
  cases hbd : fn.body with
  | none => rw [hbd] at q3; cases q3
  | some b =>
    simp [execOp, ho, resolve, hρ, Deferred.ofValue, invoke, callFunc, q1, hbd]
    exact fun he => by simp [he] at q2

/-- A region, one operation behind the other. -/
theorem wpOps_ok (hE : EnvOk E) {F : Nat → List AV → Out → Prop} (hFn : ∀ f as out, F f as out → FnOk E.P f as out) {ops : Array Oper} {Qa : St → Prop} {Q : Exit → Act → World → Prop}
    (hQ : ∀ st' a' w' g', Qa st' → RepSt w' g' st' N pv a' → Fr w0 A0 w' g' → Q .normal a' w') :
    ∀ (l : List Oper) (st : St) (g : Gh) (a : Act) (w : World), RepSt w g st N pv a → Fr w0 A0 w g → (∀ o ∈ l, DstOk N o.dst) → wpOps E F ops Qa l st → wpList E.P ops Q l a w
  | [], st, g, a, w, h, hF, _, hK => hQ st a w g hK h hF
  | o :: l, st, g, a, w, h, hF, hd, hK => by
    have hdo : DstOk N o.dst := hd o (by simp)
    have ih := fun st g a w h hF hK => wpOps_ok (ops := ops) hE hFn hQ l st g a w h hF (fun o ho => hd o (by simp [ho])) hK
    obtain ⟨d, op, ty, pos, after, gd⟩ := o
    cases gd with
    | none =>
      simp only [wpOps] at hK
      unfold wpList
      rw [if_pos (by rfl)]
      refine .inl ?_
      cases hp : Op.pureA op with
      | true =>
        rw [hp] at hK
        simp only [cond_true] at hK
        obtain ⟨x, hx, hr⟩ := opP_ok (o := ⟨d, op, ty, pos, after, none⟩) hE h hK
        obtain ⟨v, hv, hr⟩ := hr rfl
        unfold Oper.wp
        rw [hv w (.refl w)]
        exact ih _ _ _ _ (h.put hr hdo) hF hx
      | false =>
        rw [hp] at hK
        simp only [cond_false] at hK
        exact opS_wp (o := ⟨d, op, ty, pos, after, none⟩) hE h hF hFn hK (fun st' av v w' g' hK' hR hA hF' => ih _ _ _ _ (hR.put hA hdo) hF' hK')
    | some jw =>
      obtain ⟨j, want⟩ := jw
      simp only [wpOps] at hK
      obtain ⟨gb, hK, hw⟩ := guardD_ok (o := ⟨d, op, ty, pos, after, some (j, want)⟩) h hK rfl
      unfold wpList
      rw [hw]
      clear hw
      cases hp : Op.pureA op with
      | true =>
        rw [hp] at hK
        simp only [cond_true] at hK
        obtain ⟨x, hx, hr⟩ := opP_ok (o := ⟨d, op, ty, pos, after, some (j, want)⟩) hE h hK
        cases gb with
        | true =>
          rw [if_pos rfl]
          refine .inl ?_
          obtain ⟨v, hv, hr⟩ := hr rfl
          unfold Oper.wp
          rw [hv w (.refl w)]
          exact ih _ _ _ _ (h.put (gu_rep (fun _ => hr) (fun h => by cases h)) hdo) hF hx
        | false =>
          rw [if_neg (by simp)]
          exact ih _ _ _ _ (h.put (gu_rep (fun h => by cases h) (fun _ => rfl)) hdo) hF hx
      | false =>
        rw [hp] at hK
        simp only [cond_false] at hK
        split at hK
        · rename_i f args tys _
          unfold callG at hK
          split at hK
          rotate_left
          · exact hK.elim
          rename_i as has
          obtain ⟨hok, r, hFr, hK⟩ := hK
          cases gb with
          | false =>
            rw [if_neg (by simp)]
            exact ih _ _ _ _ (h.pad.put (av := .may false (.one (.v r))) ⟨fun h => (by cases h), fun _ => rfl⟩ hdo) hF hK
          | true =>
            rw [if_pos rfl]
            refine .inl ?_
            obtain ⟨hfn, hC⟩ := callA_ok h hF hFn (f := f) (vals := args.map a.eval) (args := (evs st args.toList).map AV.un) (by simp [evs_len]) (fun j x u hj hu => by
              obtain ⟨y, hy, rfl⟩ := map_un_get hj
              obtain ⟨o', h1, rfl⟩ := evs_get st _ j y hy
              simp only [Array.toList_map, List.getElem?_map, h1, Option.map_some, Option.some.injEq] at hu
              subst hu
              exact rep_un (rep_ev h o') (hok _ (List.mem_of_getElem? hy)) rfl) (K := fun st' av => st' = st.pad ∧ av = .one (.v r)) (by
                unfold callA
                rw [has]
                exact ⟨_, hFr rfl, ⟨rfl, fun h => by cases h⟩, rfl, rfl⟩)
            unfold Oper.wp
            rw [run_enter (f := f) (args := args) (tys := tys) rfl rfl hfn w]
            rw [Oper.upon_enter]
            refine hC.mono ?_
            rintro e w' ⟨v, st', av, g', rfl, ⟨rfl, rfl⟩, hR, hA, hF'⟩
            exact ih _ _ _ _ (hR.put (av := .may true (.one (.v r))) ⟨fun _ => hA, fun h => by cases h⟩ hdo) hF' hK
        · obtain ⟨h1, h2⟩ := hK
          cases gb with
          | false =>
            rw [if_neg (by simp)]
            exact ih _ _ _ _ (h.put (av := .may false .no) ⟨fun h => (by cases h), fun _ => rfl⟩ hdo) hF (h2 rfl)
          | true =>
            rw [if_pos rfl]
            refine .inl ?_
            exact opS_wp (o := ⟨d, op, ty, pos, after, some (j, want)⟩) hE h hF hFn (h1 rfl) (fun st' av v w' g' hK' hR hA hF' => ih _ _ _ _ (hR.put hA hdo) hF' hK')

/-- The worlds that a region which draws may come through. -/
def Cls (w : World) : World → Prop := fun w' => w'.os = w.os ∧ w'.tape = w.tape ∧ w'.output = w.output ∧ w.heap.size ≤ w'.heap.size ∧ Up w w'

theorem wpOpsQ_ok (hE : EnvOk E) {F : Nat → List AV → Out → Prop} (hFn : ∀ f as out, F f as out → FnOk E.P f as out) {ops : Array Oper} {Qa : St → Prop} {Q : Act → Prop} (g : Gh) (w : World)
    (hQ : ∀ st' a', Qa st' → RepSt w g st' N pv a' → Q a') :
    ∀ (l : List Oper) (st : St) (a : Act), RepSt w g st N pv a → (∀ o ∈ l, DstOk N o.dst) → wpOpsQ E F ops Qa l st → wpQuiet E.P ops (Cls w) Q l a
  | [], st, a, h, _, hK => hQ st a hK h
  | o :: l, st, a, h, hd, hK => by
    have hdo : DstOk N o.dst := hd o (by simp)
    have ih := fun st a h hK => wpOpsQ_ok (ops := ops) hE hFn g w hQ l st a h (fun o ho => hd o (by simp [ho])) hK
    obtain ⟨d, op, ty, pos, after, gd⟩ := o
    have quietP : ∀ (o : Oper) {v : Value}, (∀ w', Up w w' → (execOp a.eval o).run E.P w' = .ok (.value v) w') → ∀ w', Cls w w' → o.quietAt E.P a (Cls w) w' v := by
      intro o v hv w' hw'
      unfold Oper.quietAt
      rw [hv w' hw'.2.2.2.2]
      exact ⟨rfl, rfl⟩
    have quietC : ∀ (o : Oper) {f : Nat} {args : Array Operand} {tys : Array TypeId} {as : List AV} {r : Value}, o.op = .call ⟨.value (.func f), args, tys⟩ → roArgs st ((evs st args.toList).map AV.un) = some as → (∀ x ∈ evs st args.toList, x.ok true) →
        F f as ⟨.one (.v r), [], [], false⟩ → r.oneCell' = true ∧ ∀ w', Cls w w' → o.quietAt E.P a (Cls w) w' r := by
      intro o f args tys as r ho has hok hF
      obtain ⟨hfn, hr, hC⟩ := callQ_ok h hFn has hok hF
      refine ⟨hr, fun w' hw' => ?_⟩
      unfold Oper.quietAt
      rw [run_enter ho rfl hfn w']
      refine ⟨rfl, (hC w' hw'.2.2.2.2 hw'.2.2.2.1).mono ?_⟩
      rintro e w2 ⟨he, h1, h2, h3, h4, h5⟩
      refine ⟨he, h1.trans hw'.1, h2.trans hw'.2.1, h3.trans hw'.2.2.1, Nat.le_trans hw'.2.2.2.1 h4, fun b hb => (h5 b (Nat.lt_of_lt_of_le hb hw'.2.2.2.1)).trans (hw'.2.2.2.2 b hb)⟩
    cases gd with
    | none =>
      simp only [wpOpsQ] at hK
      unfold wpQuiet
      rw [if_pos (by rfl)]
      cases hp : Op.pureA op with
      | true =>
        rw [hp] at hK
        simp only [cond_true] at hK
        obtain ⟨x, hx, hr⟩ := opP_ok (o := ⟨d, op, ty, pos, after, none⟩) hE h hK
        obtain ⟨v, hv, hr⟩ := hr rfl
        exact ⟨v, quietP _ hv, ih _ _ (h.put hr hdo) hx⟩
      | false =>
        rw [hp] at hK
        simp only [cond_false] at hK
        split at hK
        · rename_i f args tys
          unfold callG at hK
          split at hK
          rotate_left
          · exact hK.elim
          rename_i as has
          obtain ⟨hok, r, hFr, hK⟩ := hK
          obtain ⟨h1, h2⟩ := quietC ⟨d, .call ⟨.value (.func f), args, tys⟩, ty, pos, after, none⟩ rfl has hok (hFr rfl)
          exact ⟨r, h2, ih _ _ (h.put (av := .one (.v r)) ⟨h1, rfl⟩ hdo) hK⟩
        · exact hK.elim
    | some jw =>
      obtain ⟨j, want⟩ := jw
      simp only [wpOpsQ] at hK
      obtain ⟨gb, hK, hw⟩ := guardD_ok (o := ⟨d, op, ty, pos, after, some (j, want)⟩) h hK rfl
      unfold wpQuiet
      rw [hw]
      clear hw
      cases hp : Op.pureA op with
      | true =>
        rw [hp] at hK
        simp only [cond_true] at hK
        obtain ⟨x, hx, hr⟩ := opP_ok (o := ⟨d, op, ty, pos, after, some (j, want)⟩) hE h hK
        cases gb with
        | true =>
          rw [if_pos rfl]
          obtain ⟨v, hv, hr⟩ := hr rfl
          exact ⟨v, quietP _ hv, ih _ _ (h.put (gu_rep (fun _ => hr) (fun h => by cases h)) hdo) hx⟩
        | false =>
          rw [if_neg (by simp)]
          exact ih _ _ (h.put (gu_rep (fun h => by cases h) (fun _ => rfl)) hdo) hx
      | false =>
        rw [hp] at hK
        simp only [cond_false] at hK
        split at hK
        · rename_i f args tys _
          unfold callG at hK
          split at hK
          rotate_left
          · exact hK.elim
          rename_i as has
          obtain ⟨hok, r, hFr, hK⟩ := hK
          cases gb with
          | false =>
            rw [if_neg (by simp)]
            exact ih _ _ (h.put (av := .may false (.one (.v r))) ⟨fun h => (by cases h), fun _ => rfl⟩ hdo) hK
          | true =>
            rw [if_pos rfl]
            obtain ⟨h1, h2⟩ := quietC ⟨d, .call ⟨.value (.func f), args, tys⟩, ty, pos, after, some (j, want)⟩ rfl has hok (hFr rfl)
            exact ⟨r, h2, ih _ _ (h.put (av := .may true (.one (.v r))) ⟨fun _ => ⟨h1, rfl⟩, fun h => by cases h⟩ hdo) hK⟩
        · exact hK.elim

/-- Labels of objects below n alone. -/
def Gh.cut (g : Gh) (n : Nat) : Gh := { g with lab := fun b => match g.lab b with | some i => bif Nat.blt i n then some i else none | none => none }
theorem Gh.cut_some {n i b : Nat} (h : g.lab b = some i) (hi : i < n) : (g.cut n).lab b = some i := by
  have : Nat.blt i n = true := by simpa [Nat.blt_eq] using hi
  simp [Gh.cut, h, this]
theorem Gh.cut_none {n b : Nat} (h : g.lab b = none) : (g.cut n).lab b = none := by simp [Gh.cut, h]
theorem Gh.cut_back {n i b : Nat} (h : (g.cut n).lab b = some i) : g.lab b = some i ∧ i < n := by
  unfold Gh.cut at h
  simp only at h
  split at h
  · rename_i j hj
    cases hb : Nat.blt j n with
    | true =>
      rw [hb] at h
      cases h
      exact ⟨hj, by simpa [Nat.blt_eq] using hb⟩
    | false => rw [hb] at h; cases h
  · cases h
theorem Gh.cut_A {n b : Nat} (h : g.A b) : (g.cut n).A b := ⟨Gh.cut_none h.1, h.2⟩

section
variable {n : Nat} (hob : ∀ i, i < n → st'.obj i = st.obj i) (hn : st'.ob.length = n)
include hob hn
theorem RepL.cut {t : T} {v : Value} (h : RepL w g st t v) (ht : t.under0 n = true) : RepL w (g.cut n) st' t v := by
  have fz : ∀ {x : Value} {y : T}, Fz w g.A x y → Fz w (g.cut n).A x y := fun h => h.mono (fun b hb _ => ⟨Gh.cut_A hb, rfl⟩)
  match t, h with
  | .v x, h => exact h
  | .h, h => exact h
  | .s true k rows, h => exact h
  | .s false k rows, h => exact fz h
  | .q k rows row off, h => exact fz h
  | .n id [] ep lo len, h =>
    have hid : id < n := by simpa [T.under0, Nat.blt_eq] using ht
    refine ⟨by omega, fun ob ho => ?_⟩
    rw [hob id hid] at ho
    obtain ⟨h1, a, c, h2, h3, h4, h5⟩ := h.2 ob ho
    exact ⟨h1, a, c, h2, h3, h4, h5.imp (fun h => h) (fun h => ⟨h.1, Gh.cut_some h.2.1 hid, h.2.2⟩)⟩
  | .n id (x :: y) ep lo len, h => exact trivial
  | .p id [] ep row off, h =>
    have hid : id < n := by simpa [T.under0, Nat.blt_eq] using ht
    refine ⟨by omega, fun ob ho => ?_⟩
    rw [hob id hid] at ho
    obtain ⟨h1, h2⟩ := h.2 ob ho
    exact ⟨h1, Gh.cut_some h2 hid⟩
  | .p id (x :: y) ep row off, h => exact trivial
theorem RepT.cut {t : T} {v : Value} (h : RepT w g st t v) (ht : t.under n = true) : RepT w (g.cut n) st' t v := by
  refine ⟨h.1, ?_⟩
  have h2 := h.2
  match t, h2 with
  | .c f caps, h2 =>
    obtain ⟨cvs, h3, h4, h5⟩ := h2
    refine ⟨cvs, h3, h4, fun i t u hi hu => ⟨(h5 i t u hi hu).1, RepL.cut hob hn (h5 i t u hi hu).2 ?_⟩⟩
    have ht : caps.all (T.under0 n) = true := ht
    exact (List.all_eq_true.1 ht) t (List.mem_of_getElem? hi)
  | .v x, h2 => exact h2
  | .s o k rows, h2 => exact RepL.cut hob hn (w := w) (g := g) (t := .s o k rows) h2 rfl
  | .n id p ep lo len, h2 => exact RepL.cut hob hn (t := .n id p ep lo len) h2 ht
  | .p id p ep row off, h2 => exact RepL.cut hob hn (t := .p id p ep row off) h2 ht
  | .q k rows row off, h2 => exact RepL.cut hob hn (w := w) (g := g) (t := .q k rows row off) h2 rfl
  | .b row, h2 => exact h2.elim
  | .h, h2 => exact trivial
theorem RepC.cut {l : List T} {cs : Array Value} (h : RepC w g st l cs) (ht : l.all (T.under n) = true) : RepC w (g.cut n) st' l cs :=
  ⟨h.1, fun j t u hj hu => RepT.cut hob hn (h.2 j t u hj hu) ((List.all_eq_true.1 ht) t (List.mem_of_getElem? hj))⟩
theorem RepAV.cut {x : AV} {v : Value} (h : RepAV w g st x v) (ht : x.under n = true) : RepAV w (g.cut n) st' x v := by
  match x, h with
  | .one t, h => exact RepT.cut hob hn h ht
  | .agg l, h => obtain ⟨cs, h1, h2⟩ := h; exact ⟨cs, h1, RepC.cut hob hn h2 ht⟩
  | .no, h => exact trivial
  | .tup l, h => cases ht
  | .may _ _, h => cases ht
end

theorem look_agrees {tm : List (Nat × AV)} {n : Nat} : ∀ {l : List (Nat × AV)}, agrees tm l → tmBelow n l = true → ∀ k, look l k = .no ∨ (look l k = look tm k ∧ (look l k).under n = true)
  | [], _, _, k => .inl rfl
  | (j, x) :: l, h, hb, k => by
    simp only [tmBelow, Bool.and_eq_true] at hb
    simp only [look]
    by_cases hjk : j = k
    · subst hjk
      simp only [beq_self_eq_true, cond_true]
      exact .inr ⟨h.1.symm, hb.1⟩
    · have : (j == k) = false := by simpa using hjk
      rw [this]
      exact look_agrees h.2 hb.2 k

theorem obBelow_get {n : Nat} : ∀ {l : List (Option Ob)}, obBelow n l = true → ∀ (i : Nat) ob, l[i]? = some (some ob) → ob.box = true → ∀ r ∈ ob.rows, r.all (T.under n) = true
  | [], _, i, ob, hi => by simp at hi
  | none :: l, h, 0, ob, hi => by simp at hi
  | none :: l, h, i + 1, ob, hi => obBelow_get (l := l) h i ob (by simpa using hi)
  | some o :: l, h, i, ob, hi => by
    simp only [obBelow, Bool.and_eq_true, Bool.or_eq_true, Bool.not_eq_true'] at h
    cases i with
    | zero =>
      simp at hi
      subst hi
      intro hb r hr
      rcases h.1 with h1 | h1
      · rw [hb] at h1; cases h1
      · exact (List.all_eq_true.1 h1) r hr
    | succ i => exact obBelow_get h.2 i ob (by simpa using hi)

/-- Fewer temporaries, fewer objects: what is left is said still. -/
theorem cut_ok (h : RepSt w g st N pv a) (hF : Fr w0 A0 w g) (hc : cuts st st') : ∃ g', RepSt w g' st' N pv a ∧ Fr w0 A0 w g' := by
  obtain ⟨c1, c2, c3, c4, c5, c6⟩ := hc
  obtain ⟨n, hn⟩ : ∃ n, n = st'.ob.length := ⟨_, rfl⟩
  rw [← hn] at c2 c4 c5 c6
  have hob : ∀ i, i < n → st'.obj i = st.obj i := by
    intro i hi
    unfold St.obj
    rw [← c2, List.getElem?_take, if_pos hi]
  refine ⟨g.cut n, ⟨h.size, h.defers, fun k => ?_, fun id ob ho => ?_, fun b i hb => ?_, by rw [← c3]; exact h.pr.1, fun i t u hi hu => ?_⟩, hF.os, hF.tape, hF.output, hF.size, hF.x, fun b hb hA => ⟨(hF.blk b hb hA).1, Gh.cut_none (hF.blk b hb hA).2⟩⟩
  · rcases look_agrees c1 c4 k with h1 | ⟨h1, h2⟩
    · rw [h1]; trivial
    · exact RepAV.cut hob hn.symm (by rw [h1]; exact h.tm k) h2
  · have hid : id < n := by rw [hn]; exact obj_lt ho
    have ho' := ho
    rw [hob id hid] at ho'
    have hR := h.ob id ob ho'
    unfold RepOb at hR ⊢
    cases hb : ob.box with
    | true =>
      rw [hb] at hR
      obtain ⟨cs, e, row, q1, q2, q3, q4, q5, q6, q7⟩ := hR
      refine ⟨cs, e, row, q1, q2, q3, Gh.cut_some q4 hid, q5, q6, RepC.cut hob hn.symm q7 ?_⟩
      have hget : st'.ob[id]? = some (some ob) := by
        unfold St.obj at ho
        cases hx : st'.ob[id]? with
        | none => rw [hx] at ho; cases ho
        | some y => rw [hx] at ho; simp at ho; subst ho; rfl
      exact obBelow_get c5 id ob hget hb row (by rw [q1]; simp)
    | false =>
      rw [hb] at hR
      rcases hR with ⟨q1, q2⟩ | ⟨cs, e, vals, Sub, q1, q2, q3, q4, hM⟩
      · exact .inl ⟨q1, fun hh => q2 (Gh.cut_back hh).1⟩
      · exact .inr ⟨cs, e, vals, Sub, q1, Gh.cut_some q2 hid, q3, q4, hM.keeps (fun b hb _ => ⟨Gh.cut_A hb, rfl⟩) (fun x hx => Gh.cut_some hx hid) (fun _ _ _ _ => rfl)⟩
  · obtain ⟨h1, h2⟩ := Gh.cut_back hb
    exact ⟨(h.lab b i h1).1, by omega⟩
  · rw [← c3] at hi c6
    exact RepT.cut hob hn.symm (h.pr.2 i t u hi hu) ((List.all_eq_true.1 c6) t (List.mem_of_getElem? hi))

/-- What is said of the states at the ends says what is asked of the machine's. -/
def Lift (w0 : World) (A0 : Fix) (N : Nat) (pv : List Value) (Qa : Exit → St → Prop) (Q : Exit → Act → World → Prop) : Prop :=
  ∀ e st' a' w' g', Qa e st' → RepSt w' g' st' N pv a' → Fr w0 A0 w' g' → Q e a' w'

/-- A piece of code. -/
theorem wpA_ok (hE : EnvOk E) (hm : E.P.follows .mixedOrders = true) {F : Nat → List AV → Out → Prop} (hFn : ∀ f as out, F f as out → FnOk E.P f as out) :
    ∀ (c : Code) {Qa : Exit → St → Prop} {Q : Exit → Act → World → Prop} {st : St} {g : Gh} {a : Act} {w : World}, codeOk N c = true → Lift w0 A0 N pv Qa Q → RepSt w g st N pv a → Fr w0 A0 w g → wpA E F c Qa st → c.wp E.P Q a w := by
  intro c
  induction c with
  | skip => intro Qa Q st g a w _ hL h hF hK; exact wp_skip (hL _ _ _ _ _ hK h hF)
  | exit i => intro Qa Q st g a w _ hL h hF hK; exact wp_exit (hL _ _ _ _ _ hK h hF)
  | ret => intro Qa Q st g a w _ hL h hF hK; exact wp_ret (hL _ _ _ _ _ hK h hF)
  | seq x y ihx ihy =>
    intro Qa Q st g a w hc hL h hF hK
    simp only [codeOk, Bool.and_eq_true] at hc
    refine wp_seq (ihx hc.1 ?_ h hF hK)
    intro e st' a' w' g' hq h' hF'
    cases e with
    | normal => exact ihy hc.2 hL h' hF' hq
    | _ => exact hL _ _ _ _ _ hq h' hF'
  | cond o x y ihx ihy =>
    intro Qa Q st g a w hc hL h hF hK
    simp only [codeOk, Bool.and_eq_true] at hc
    simp only [wpA] at hK
    unfold condK at hK
    split at hK
    · rename_i b hb
      have := rep_ev h o
      rw [hb] at this
      exact wp_cond_split (t := b) this.2 (fun hb => ihx hc.1 hL h hF (hK.1 hb)) (fun hb => ihy hc.2 hL h hF (hK.2 hb))
    · exact hK.elim
  | block id c ih =>
    intro Qa Q st g a w hc hL h hF hK
    refine wp_block (ih (Qa := brk id Qa) hc ?_ h hF hK)
    intro e st' a' w' g' hq h' hF'
    cases e with
    | exit i =>
      simp only [brk] at hq
      simp only [Exit.inBlock]
      by_cases hi : i = id
      · subst hi
        simp only [beq_self_eq_true, cond_true] at hq
        rw [if_pos rfl]
        exact hL _ _ _ _ _ hq h' hF'
      · rw [if_neg hi]
        have : (i == id) = false := by simpa using hi
        rw [this] at hq
        exact hL _ _ _ _ _ hq h' hF'
    | _ => exact hL _ _ _ _ _ hq h' hF'
  | loop c ih =>
    intro Qa Q st g a w hc hL h hF hK
    obtain ⟨α, S, μ, ⟨x0, h0⟩, hI⟩ := hK
    obtain ⟨g0, hR0, hF0⟩ := cut_ok h hF h0
    refine wp_loop_ghost (fun m a w => ∃ x g, μ x = m ∧ RepSt w g (S x) N pv a ∧ Fr w0 A0 w g) (μ x0) ⟨x0, g0, rfl, hR0, hF0⟩ ?_
    rintro m a w ⟨x, g, rfl, h, hF⟩
    refine ih (Qa := thn (nextA S μ x) Qa) hc ?_ h hF (hI x)
    intro e st' a' w' g' hq h' hF'
    cases e with
    | normal =>
      obtain ⟨x', hlt, hcut⟩ := hq
      obtain ⟨g2, hR2, hF2⟩ := cut_ok h' hF' hcut
      exact ⟨μ x', hlt, x', g2, rfl, hR2, hF2⟩
    | _ => exact hL _ _ _ _ _ hq h' hF'
  | region id ops fl =>
    intro Qa Q st g a w hc hL h hF hK
    simp only [codeOk, Bool.and_eq_true, List.all_eq_true] at hc
    have hd : ∀ o ∈ ops.toList, DstOk N o.dst := by
      intro o ho i hi
      have := hc.1 o ho
      rw [hi] at this
      simpa [Nat.blt_eq] using this
    cases fl with
    | false =>
      simp only [wpA, cond_false] at hK
      exact wp_region_list (wpOps_ok hE hFn (fun st' a' w' g' hq h' hF' => hL _ _ _ _ _ hq h' hF') ops.toList st g a w h hF hd hK)
    | true =>
      simp only [wpA, cond_true] at hK
      have hB : Region.lexB .any ops = true := by simpa using hc.2
      refine wp_region_quiet (C := Cls w) hm hB ⟨rfl, rfl, rfl, Nat.le_refl _, fun _ _ => rfl⟩ ?_
      refine wpOpsQ_ok hE hFn g w (fun st' a' hq h' w' hw' => ?_) ops.toList st a h hd hK
      refine hL _ _ _ _ _ hq (h'.up hw'.2.2.2.2 hw'.2.2.2.1) ?_
      refine ⟨hw'.1.trans hF.os, hw'.2.1.trans hF.tape, hw'.2.2.1.trans hF.output, Nat.le_trans hF.size hw'.2.2.2.1, hF.x, fun b hb hA => ?_⟩
      obtain ⟨p1, p2⟩ := hF.blk b hb hA
      exact ⟨(hw'.2.2.2.2 b (Nat.lt_of_lt_of_le hb hF.size)).trans p1, p2⟩
  | _ => intro Qa Q st g a w _ _ _ _ hK; exact hK.elim
end Go.Ev
