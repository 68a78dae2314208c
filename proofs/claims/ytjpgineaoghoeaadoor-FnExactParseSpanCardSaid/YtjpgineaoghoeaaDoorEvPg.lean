/- Regions that draw their order, in parts. -/
import Derived.Test.YtjpgineaoghoeaaDoorEvPx
set_option linter.unusedSectionVars false
set_option linter.unusedVariables false
set_option linter.unusedSimpArgs false
namespace Go.Ev
open Go
open Classical
variable {E : Env} {w w' w0 : World} {A0 : Fix} {g g' : Gh} {st st' : St} {N : Nat} {pv : List Value} {a : Act}
theorem wpOpsD_ok (hE : EnvOk E) (hG : GOk E.P w0 (A0.G w0)) {F : Nat → List AV → Out → Prop} (hFn : ∀ f as out, F f as out → FnOk E.P f as out) {ops : Array Oper} {Kn : St → Prop} {Q : Exit → Act → World → Prop} {u : World} {n gf : Nat} {L : Array Bool}
    (hs : Region.noSelect ops = true) (hp : ∀ c a w, Q (.panic c) a w → False)
    (hKn : ∀ st' a' w' g', Kn st' → RepSt w' g' st' N pv a' → Fr w0 A0 w' g' → wpAny E.P .any ops Q gf L a' w') (hP : ∀ j ∈ Region.ready .any ops L, n ≤ j) (hd : ∀ o ∈ ops.toList, DstOk N o.dst)
    (head : ∀ i, i < n → ∀ listed, HeadInv .any ops n listed → listed.getD i true = false → ∀ j ∈ Region.ready .any ops listed, j < n) :
    ∀ (l : List (Nat × Bool)) (ph : Bool) (listed : Array Bool) (st : St) (g : Gh) (a : Act) (b : World), markC l listed = L → Sx u b → (ph = true → b = u) → heldD ops n ph l listed = true → HeadInv .any ops n listed → RepSt b g st N pv a → Fr w0 A0 b g → wpOpsD E F ops Kn l st →
      wpAnyC E.P .any ops Q n Cls (Sx u) (fun listed a w => listed = L ∧ wpAny E.P .any ops Q gf L a w) l.length listed a b
  | [], ph, listed, st, g, a, b, hL, hb, hph, hB, inv, h, hF, hK => by
    intro w' hc hS
    exact ⟨hL, hKn _ _ _ _ hK (h.up hc.2.2.2.2 hc.2.2.2.1) (hF.cls hc)⟩
  | (i, q) :: l, ph, listed, st, g, a, b, hL, hb, hph, hB, inv, h, hF, hK => by
    replace hL : markC l (listed.setIfInBounds i true) = L := hL
    have ih := wpOpsD_ok (u := u) (n := n) hE hG hFn hs hp hKn hP hd head l
    simp only [wpOpsD, stK_eq] at hK
    simp only [heldD, Bool.and_eq_true, Nat.blt_eq] at hB
    obtain ⟨hin, hB⟩ := hB
    cases hi : ops.toList[i]? with
    | none => rw [hi] at hK; exact hK.elim
    | some o =>
      have hia : ops[i]? = some o := by simpa using hi
      have hdo : DstOk N o.dst := hd o (List.mem_of_getElem? hi)
      rw [hi] at hK
      obtain ⟨d, op, ty, pos, after, gd⟩ := o
      have main : ∀ (st : St), Region.wanted ⟨d, op, ty, pos, after, gd⟩ (yielded ops a.tmps) = true → RepSt b g st N pv a →
          (bif Op.pureA op then opP E true op ty st fun a => wpOpsD E F ops Kn l (st.set d a)
            else bif q then quietC E F op st fun a => wpOpsD E F ops Kn l (st.set d a)
            else chainC E F op ty st fun st a => wpOpsD E F ops Kn l (st.set d a)) →
          wpAnyC E.P .any ops Q n Cls (Sx u) (fun listed a w => listed = L ∧ wpAny E.P .any ops Q gf L a w) (l.length + 1) listed a b := by
        clear hK h
        intro st hwt h hK
        cases q with
        | true =>
          simp only [cond_true, Bool.and_eq_true] at hB
          obtain ⟨b1, b2, b3, b4⟩ := hB
          have hbu := hph b1
          subst hbu
          have hr : i ∈ Region.ready .any ops listed := by simpa using b3
          have fin : ∀ (x : AV) (v : Value), wpOpsD E F ops Kn l (st.set d x) → RepAV b g st x v → YieldsC E.P ops Cls (Sx b) ⟨d, op, ty, pos, after, gd⟩ v a →
              wpAnyC E.P .any ops Q n Cls (Sx b) (fun listed a w => listed = L ∧ wpAny E.P .any ops Q gf L a w) (l.length + 1) listed a b := by
            intro x v hx hrep hy
            exact wpAnyC_first (v := v) hia (Region.noSelect_spec hs) (fun c a w hq => (hp _ _ _ hq).elim) hin (head i hin) (fun listed a w hT => by rw [hT.1]; exact hP) Cls.refl (fun _ _ _ => Cls.trans) l.length listed a b inv (Region.free_spec hia b2) hr hy
              (ih ph _ _ g _ b hL hb hph b4 (inv.set hr hin) (h.put hrep hdo) hF hx)
          cases hpu : Op.pureA op with
          | true =>
            rw [hpu] at hK
            simp only [cond_true] at hK
            obtain ⟨x, hx, hr⟩ := opP_ok (o := ⟨d, op, ty, pos, after, gd⟩) hE h rfl hK
            obtain ⟨v, hv, hr⟩ := hr rfl
            refine fin x v hx hr (.inl ⟨hwt, fun w' hw' => ?_⟩)
            unfold Oper.quietAt
            rw [hv w' hw'.1]
            exact ⟨rfl, rfl⟩
          | false =>
            rw [hpu] at hK
            simp only [cond_false, cond_true] at hK
            unfold quietC at hK
            split at hK
            · obtain ⟨x, v, hx, hv, hr⟩ := build_pure (K := fun a => wpOpsD E F ops Kn l (st.set d a)) (o := ⟨d, _, ty, pos, after, gd⟩) hE h rfl hK
              refine fin x v hx hr (.inl ⟨hwt, fun w' hw' => ?_⟩)
              unfold Oper.quietAt
              rw [hv w']
              exact ⟨rfl, rfl⟩
            · unfold callQ at hK
              split at hK
              · rename_i x args tys heq
                split at hK
                · rename_i f caps hf
                  unfold callG at hK
                  split at hK
                  rotate_left
                  · exact hK.elim
                  rename_i as has
                  obtain ⟨as', r, hFa, hFz, hK⟩ := hK
                  obtain ⟨hfn, hr1, cvs, hv, hC⟩ := callQ_ok h (hF.gok hG) hFn hf has ⟨as', hFa, hFz⟩
                  refine fin (.one (.v r)) r hK ⟨hr1, rfl⟩ (.inl ⟨hwt, fun w' hw' => ?_⟩)
                  unfold Oper.quietAt
                  rw [run_enter heq hv hfn w']
                  refine ⟨rfl, (hC w' hw'.1 hw'.2).mono ?_⟩
                  rintro e w2 ⟨he, h1, h2, h3, h4, h5⟩
                  have hc : Cls w' w2 := ⟨h1, h2, h3, h4, h5⟩
                  exact ⟨he, hc, hw'.cls hc⟩
                · exact hK.elim
              · exact hK.elim
            · exact hK.elim
        | false =>
          simp only [cond_false, Bool.and_eq_true, beq_iff_eq] at hB
          have hr : i ∈ Region.ready .any ops listed := by rw [hB.1]; simp
          refine wpAnyC_one hB.1 hin fun w' hc hS => ?_
          have h' := h.up hc.2.2.2.2 hc.2.2.2.1
          have hF' := hF.cls hc
          refine wpOp_wt hia hwt ?_
          cases hpu : Op.pureA op with
          | true =>
            rw [hpu] at hK
            simp only [cond_true] at hK
            obtain ⟨x, hx, hr'⟩ := opP_ok (o := ⟨d, op, ty, pos, after, gd⟩) hE h' rfl hK
            obtain ⟨v, hv, hr'⟩ := hr' rfl
            unfold Oper.wp
            rw [hv w' (.refl w')]
            exact ⟨hS, ih false _ _ g _ w' hL hS (fun h => by cases h) hB.2 (inv.set hr hin) (h'.put hr' hdo) hF' hx⟩
          | false =>
            rw [hpu] at hK
            simp only [cond_false] at hK
            unfold chainC at hK
            split at hK
            · unfold callH at hK
              split at hK
              · rename_i c x args tys heq
                cases heq
                exact call_wpU (o := ⟨d, .call ⟨.value x, args, tys⟩, ty, pos, after, gd⟩) h' hF' hG hFn rfl rfl hK (fun st' av v w1 g' hK' hR hA hF1 hU =>
                  have hs1 : w'.heap.size ≤ w1.heap.size := by
                    rcases Nat.lt_or_ge w1.heap.size w'.heap.size with hlt | hge
                    · have := hU w1.heap.size hlt
                      rw [Array.getElem?_eq_none (Nat.le_refl _)] at this
                      have h3 : w1.heap.size < w'.heap.size := hlt
                      simp [h3] at this
                    · exact hge
                  have hS' : Sx u w1 := ⟨fun y hy => (hU y (Nat.lt_of_lt_of_le hy hS.2)).trans (hS.1 y hy), Nat.le_trans hS.2 hs1⟩
                  ⟨hS', ih false _ _ g' _ w1 hL hS' (fun h => by cases h) hB.2 (inv.set hr hin) (hR.put hA hdo) hF1 hK'⟩)
              · exact hK.elim
            · rename_i t
              have hti : ∃ ti, E.tab t = some ti := by
                cases hti : E.tab t with
                | some ti => exact ⟨ti, rfl⟩
                | none =>
                  have h2 := hK
                  simp only [opS] at h2
                  unfold Env.ti at h2
                  rw [hti] at h2
                  exact h2.elim
              obtain ⟨ti, hti⟩ := hti
              obtain ⟨st', av, hK', nx, v, w1, g', hrun, hnx, hR, hA, hF1⟩ := alloc_ok (K := fun st a => wpOpsD E F ops Kn l (st.set d a)) (o := ⟨d, .alloc t, ty, pos, after, gd⟩) hE h' hF' rfl (by simpa only [opS] using hK)
              have hU := alloc_up (o := ⟨d, .alloc t, ty, pos, after, gd⟩) hE hti rfl hrun
              have hs1 : w'.heap.size ≤ w1.heap.size := by
                rcases Nat.lt_or_ge w1.heap.size w'.heap.size with hlt | hge
                · have := hU w1.heap.size hlt
                  rw [Array.getElem?_eq_none (Nat.le_refl _)] at this
                  have h3 : w1.heap.size < w'.heap.size := hlt
                  simp [h3] at this
                · exact hge
              have hS' : Sx u w1 := ⟨fun y hy => (hU y (Nat.lt_of_lt_of_le hy hS.2)).trans (hS.1 y hy), Nat.le_trans hS.2 hs1⟩
              unfold Oper.wp
              rw [hrun]
              rcases hnx with rfl | ⟨rfl, rfl⟩
              · exact ⟨hS', ih false _ _ g' _ w1 hL hS' (fun h => by cases h) hB.2 (inv.set hr hin) (hR.put hA hdo) hF1 hK'⟩
              · exact ⟨hS', ih false _ _ g' _ w1 hL hS' (fun h => by cases h) hB.2 (inv.set hr hin) (hR.put hA hdo) hF1 hK'⟩
            · rename_i t parts
              unfold quietC at hK
              obtain ⟨x, v, hx, hv, hr'⟩ := build_pure (K := fun a => wpOpsD E F ops Kn l (st.set d a)) (o := ⟨d, .build t parts, ty, pos, after, gd⟩) hE h' rfl hK
              unfold Oper.wp
              rw [hv w']
              exact ⟨hS, ih false _ _ g _ w' hL hS (fun h => by cases h) hB.2 (inv.set hr hin) (h'.put hr' hdo) hF' hx⟩
            · exact hK.elim
      cases gd with
      | none => exact main st rfl h hK
      | some jw =>
        obtain ⟨j, want⟩ := jw
        obtain ⟨gb, st1, hw, h, hK1, hK0⟩ := guardD_ok (o := ⟨d, op, ty, pos, after, some (j, want)⟩) h hK rfl
        cases gb with
        | true => exact main st1 hw h (hK1 rfl)
        | false =>
          have hKz := hK0 rfl
          have hput := h.put (d := d) (av := .may false .no) (v := undef) ⟨fun h => (by cases h), fun _ => rfl⟩ hdo
          cases q with
          | true =>
            simp only [cond_true, Bool.and_eq_true] at hB
            obtain ⟨b1, b2, b3, b4⟩ := hB
            have hbu := hph b1
            subst hbu
            have hr : i ∈ Region.ready .any ops listed := by simpa using b3
            exact wpAnyC_first (v := undef) hia (Region.noSelect_spec hs) (fun c a w hq => (hp _ _ _ hq).elim) hin (head i hin) (fun listed a w hT => by rw [hT.1]; exact hP) Cls.refl (fun _ _ _ => Cls.trans) l.length listed a b inv (Region.free_spec hia b2) hr (.inr ⟨hw, rfl⟩)
              (ih ph _ _ g _ b hL hb hph b4 (inv.set hr hin) hput hF hKz)
          | false =>
            simp only [cond_false, Bool.and_eq_true, beq_iff_eq] at hB
            have hr : i ∈ Region.ready .any ops listed := by rw [hB.1]; simp
            refine wpAnyC_one hB.1 hin fun w' hc hS => ?_
            unfold Go.wpOp
            rw [hia]
            simp only
            rw [if_neg (by rw [hw]; simp)]
            exact ⟨hS, ih false _ _ g _ w' hL hS (fun h => by cases h) hB.2 (inv.set hr hin) (hput.up hc.2.2.2.2 hc.2.2.2.1) (hF.cls hc) hKz⟩

theorem root_waits {ops : Array Oper} {n : Nat} {listed : Array Bool} (hs : Region.sinkB .any ops n = true) (hr : rootB ops n = true) (inv : HeadInv .any ops n listed) {i : Nat} (hi : i < n) (hun : listed.getD i true = false) : ∀ t ∈ Region.ready .any ops listed, t < n := by
  intro t ht
  rcases Nat.lt_or_ge t n with h | h
  · exact h
  · exfalso
    obtain ⟨_, ot, hot, hall⟩ := mem_ready.1 ht
    have htlt : t < ops.size := (Array.getElem?_eq_some_iff.1 hot).1
    rcases Nat.lt_or_ge n t with hnt | hnt
    · have h1 := List.all_eq_true.1 hr t (List.mem_range.2 htlt)
      simp only [Bool.or_eq_true, Nat.ble_eq] at h1
      rcases h1 with h1 | h1
      · omega
      · obtain ⟨j, hj, hj2⟩ := List.any_eq_true.1 h1
        simp only [Bool.and_eq_true, Nat.ble_eq, Nat.blt_eq] at hj2
        obtain ⟨oj, hoj, e, he, hb, hon⟩ := Region.waitsFor_spec hj2.2.2
        have : oj = ot := Option.some.inj (hoj.symm.trans hot)
        subst this
        have h2 := hall e he hb
        have h3 := inv.tail j hj2.1 (by have := List.mem_range.1 hj; exact this)
        rw [hon, getD_both h3] at h2
        cases h2
    · have htn : t = n := by omega
      subst htn
      have key : ∀ (d i : Nat), t - i = d → i < t → listed.getD i true = false → False := by
        intro d
        induction d using Nat.strongRecOn with
        | _ d ih =>
          intro i hd hi hun
          have h1 := List.all_eq_true.1 hs i (List.mem_range.2 hi)
          obtain ⟨j, hj, hj2⟩ := List.any_eq_true.1 h1
          simp only [Bool.and_eq_true, decide_eq_true_eq] at hj2
          obtain ⟨oj, hoj, e, he, hb, hon⟩ := Region.waitsFor_spec hj2.2
          have hjle : j ≤ t := by have := List.mem_range.1 hj; omega
          by_cases hjt : j = t
          · subst hjt
            have : oj = ot := Option.some.inj (hoj.symm.trans hot)
            subst this
            have h2 := hall e he hb
            rw [hon, getD_both hun] at h2
            cases h2
          · cases hl : listed.getD j false with
            | true =>
              have h2 := inv.closed j oj hoj hl e he hb
              rw [hon, getD_both hun] at h2
              cases h2
            | false => exact ih (t - j) (by omega) j rfl (by omega) (getD_in (by rw [inv.size]; omega) hl)
      exact key _ i rfl hi hun
theorem HeadInv.marked {ops : Array Oper} {n : Nat} : ∀ (l : List (Nat × Bool)) (ph : Bool) (listed : Array Bool), heldD ops n ph l listed = true → HeadInv .any ops n listed → HeadInv .any ops n (markC l listed)
  | [], _, _, _, inv => inv
  | (i, q) :: l, ph, listed, hB, inv => by
    simp only [heldD, Bool.and_eq_true, Nat.blt_eq] at hB
    obtain ⟨hin, hB⟩ := hB
    cases q with
    | true =>
      simp only [cond_true, Bool.and_eq_true] at hB
      obtain ⟨_, _, b3, b4⟩ := hB
      exact HeadInv.marked l ph _ b4 (inv.set (by simpa using b3) hin)
    | false =>
      simp only [cond_false, Bool.and_eq_true, beq_iff_eq] at hB
      exact HeadInv.marked l false _ hB.2 (inv.set (by rw [hB.1]; simp) hin)
theorem prefB_ready {ops : Array Oper} {n : Nat} {L : Array Bool} (h : prefB ops n L = true) : ∀ j ∈ Region.ready .any ops L, n ≤ j := by
  intro j hj
  obtain ⟨hun, o, ho, _⟩ := mem_ready.1 hj
  have hlt : j < ops.size := (Array.getElem?_eq_some_iff.1 ho).1
  have := List.all_eq_true.1 h j (List.mem_range.2 hlt)
  rw [hun] at this
  rcases Nat.lt_or_ge j n with h1 | h1
  · have h2 : Nat.blt j n = true := by simpa [Nat.blt_eq] using h1
    rw [h2] at this
    cases this
  · exact h1
theorem wpSegs_ok (hE : EnvOk E) (hG : GOk E.P w0 (A0.G w0)) {F : Nat → List AV → Out → Prop} (hFn : ∀ f as out, F f as out → FnOk E.P f as out) {ops : Array Oper} {Qa : St → Prop} {Q : Exit → Act → World → Prop}
    (hs : Region.noSelect ops = true) (hp : ∀ c a w, Q (.panic c) a w → False)
    (hQ : ∀ st' a' w' g', Qa st' → RepSt w' g' st' N pv a' → Fr w0 A0 w' g' → Q .normal a' w') (hd : ∀ o ∈ ops.toList, DstOk N o.dst) :
    ∀ (r : List (Nat × List (Nat × Bool))) (m : Nat) (listed : Array Bool) (st : St) (g : Gh) (a : Act) (w : World), segsOk ops m r listed = true → HeadInv .any ops m listed → RepSt w g st N pv a → Fr w0 A0 w g → wpSegs E F ops Qa r st → wpAny E.P .any ops Q (segsLen r) listed a w
  | [], m, listed, st, g, a, w, hB, inv, h, hF, hK => ⟨by simpa [segsOk] using hB, hQ _ _ _ _ hK h hF⟩
  | (n, l) :: r, m, listed, st, g, a, w, hB, inv, h, hF, hK => by
    simp only [segsOk, Bool.and_eq_true, Nat.ble_eq, Bool.or_eq_true, Nat.beq_eq] at hB
    obtain ⟨b1, b2, b3, b4, b5, b6⟩ := hB
    have inv' : HeadInv .any ops n listed := ⟨inv.size, inv.closed, fun t ht ht' => inv.tail t (by omega) ht'⟩
    have head : ∀ i, i < n → ∀ listed, HeadInv .any ops n listed → listed.getD i true = false → ∀ j ∈ Region.ready .any ops listed, j < n := by
      intro i hi listed inv hun j hj
      rcases b3 with b3 | ⟨b31, b32⟩
      · obtain ⟨_, o, ho, _⟩ := mem_ready.1 hj
        have := (Array.getElem?_eq_some_iff.1 ho).1
        omega
      · exact root_waits b31 b32 inv hi hun j hj
    have ih := wpSegs_ok hE hG hFn hs hp hQ hd r n (markC l listed)
    have key := wpOpsD_ok (Q := Q) (u := w) (n := n) (gf := segsLen r) (L := markC l listed) (Kn := wpSegs E F ops Qa r) hE hG hFn hs hp (fun st' a' w' g' hk hR hF' => ih st' g' a' w' b6 (HeadInv.marked l true listed b4 inv') hR hF' hk) (prefB_ready b5) hd head l true listed st g a w rfl ⟨.refl _, Nat.le_refl _⟩ (fun _ => rfl) b4 inv' h hF hK
    exact wpAny_of_C (g := segsLen r) Cls.refl (fun listed a w hT => by rw [hT.1]; exact hT.2) l.length listed a w ⟨.refl _, Nat.le_refl _⟩ key
end Go.Ev
