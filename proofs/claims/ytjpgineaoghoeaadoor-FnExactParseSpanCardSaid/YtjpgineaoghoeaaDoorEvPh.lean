/- Regions that draw their order: what has one answer is taken first; then one by one; a tail behind. -/
import Derived.Test.YtjpgineaoghoeaaDoorEvP
set_option linter.unusedSectionVars false
set_option linter.unusedVariables false
set_option linter.unusedSimpArgs false
namespace Go.Ev
open Go
section
variable {P : Program} {ops : Array Oper} {md : Region.Mode} {G : World → World → Prop} {S : World → Prop}

/-- One answer, in every world of the class; the world may grow. -/
def YieldsC (P : Program) (ops : Array Oper) (G : World → World → Prop) (S : World → Prop) (o : Oper) (v : Value) (a : Act) : Prop :=
  (Region.wanted o (yielded ops a.tmps) = true ∧ ∀ w, S w → o.quietAt P a (fun w' => G w w' ∧ S w') w v) ∨ (Region.wanted o (yielded ops a.tmps) = false ∧ v = undef)

theorem YieldsC.of_same {o : Oper} {v : Value} {a a' : Act} (hy : YieldsC P ops G S o v a) (he : execOp a'.eval o = execOp a.eval o)
    (hw : Region.wanted o (yielded ops a'.tmps) = Region.wanted o (yielded ops a.tmps)) : YieldsC P ops G S o v a' := by
  unfold YieldsC Oper.quietAt at *
  rw [he, hw]
  exact hy

theorem YieldsC.wpOp {Q : Exit → Act → World → Prop} {i : Nat} {o : Oper} {v : Value} {a : Act} (hi : ops[i]? = some o) (hy : YieldsC P ops G S o v a) (Gr : ∀ w, G w w)
    {K : Act → World → Prop} {w : World} (hS : S w) (h : ∀ w', G w w' → S w' → K (a.put o.dst v) w') : wpOp P ops Q i K a w := by
  unfold Go.wpOp
  rw [hi]
  simp only
  rcases hy with ⟨hw, hv⟩ | ⟨hw, rfl⟩
  rotate_left
  · rw [if_neg (by rw [hw]; simp)]
    exact h _ (Gr _) hS
  rw [if_pos hw]
  refine .inl ?_
  have hv := hv w hS
  unfold Oper.quietAt at hv
  unfold Oper.wp
  generalize (execOp a.eval o).run P w = r at hv ⊢
  cases r with
  | ok n w' =>
    cases n with
    | value u => obtain ⟨rfl, rfl⟩ := hv; exact h _ (Gr _) hS
    | skip => obtain ⟨rfl, rfl⟩ := hv; exact h _ (Gr _) hS
    | enter f args =>
      obtain ⟨rfl, hc⟩ := hv
      rw [Oper.upon_enter]
      refine hc.mono ?_
      rintro e w2 ⟨rfl, hG, hS2⟩
      exact h _ hG hS2
    | _ => exact hv.elim
  | halt x w' => exact hv.elim

theorem wpOp_putC {Q : Exit → Act → World → Prop} {j : Nat} {oi oj : Oper} {v : Value} (hj : ops[j]? = some oj) (hap : oi.apart ops oj = true)
    (hsi : ∀ cs b, oi.op ≠ .select cs b) (hsj : ∀ cs b, oj.op ≠ .select cs b)
    (hQ : ∀ c a w, Q (.panic c) (a.put oi.dst v) w → Q (.panic c) a w) {K : Act → World → Prop} {a : Act} {w : World}
    (hy : YieldsC P ops G S oi v a) (h : wpOp P ops Q j K (a.put oi.dst v) w) :
    wpOp P ops Q j (fun a' w' => YieldsC P ops G S oi v a' ∧ K (a'.put oi.dst v) w') a w := by
  obtain ⟨h1, h2, h3⟩ := Oper.apart_spec hap
  have keep : ∀ (a : Act), YieldsC P ops G S oi v a → ∀ u, YieldsC P ops G S oi v (a.put oj.dst u) := fun a hy u =>
    hy.of_same (execOp_put oi hsi a oj.dst u h3) (wanted_put oi a oj.dst u h3)
  have keepD : ∀ d, YieldsC P ops G S oi v { a with defers := d :: a.defers } := fun d => hy.of_same rfl rfl
  unfold Go.wpOp at *
  simp only [hj] at *
  rw [wanted_put oj a oi.dst v h1] at h
  split
  · rename_i hw
    simp only [hw, if_true] at h
    rcases h with h | ⟨hasks, hlets⟩
    case inr => exact .inr ⟨by unfold Oper.asks at *; rw [execOp_put oj hsj a oi.dst v h1] at hasks; exact hasks, hlets⟩
    refine .inl ?_
    unfold Oper.wp at *
    rw [execOp_put oj hsj a oi.dst v h1] at h
    generalize (execOp a.eval oj).run P w = r at *
    cases r with
    | ok n w' =>
      cases n <;> simp only [Oper.upon] at h ⊢
      case value u => exact ⟨keep a hy u, by rw [← Act.put_comm a v u h2]; exact h⟩
      case skip => exact ⟨keep a hy _, by rw [← Act.put_comm a v undef h2]; exact h⟩
      case defer d =>
        refine ⟨keep _ (keepD d) _, ?_⟩
        rw [← Act.put_comm _ v undef h2, ← Act.put_defers]
        exact h
      case enter f args =>
        refine Calls.mono h fun e w'' he => ?_
        cases e with
        | returned u => exact ⟨keep a hy u, by rw [← Act.put_comm a v u h2]; exact he⟩
        | panicked c => exact hQ _ _ _ he
        | outgrown => exact he
      case row row args => exact Rows.mono h fun u w'' he => ⟨keep a hy u, by rw [← Act.put_comm a v u h2]; exact he⟩
    | halt x w' =>
      cases x <;> simp only [Oper.upon] at h ⊢
      case panic u => exact hQ _ _ _ h
  · rename_i hw
    simp only [hw] at h
    exact ⟨keep a hy _, by rw [← Act.put_comm a v undef h2]; exact h⟩

/-- Whatever order is picked from here on, in whatever world of the class that this one may grow to. -/
def wpAnyC (P : Program) (md : Region.Mode) (ops : Array Oper) (Q : Exit → Act → World → Prop) (n : Nat) (G : World → World → Prop) (S : World → Prop) (T : Array Bool → Act → World → Prop) : Nat → Array Bool → Act → World → Prop
  | 0, listed, a, w => ∀ w', G w w' → S w' → T listed a w'
  | f + 1, listed, a, w => ∀ w', G w w' → S w' → Region.ready md ops listed ≠ [] ∧ ∀ i ∈ Region.ready md ops listed, i < n ∧ wpOp P ops Q i (fun a' w1 => S w1 ∧ wpAnyC P md ops Q n G S T f (listed.setIfInBounds i true) a' w1) a w'

variable {Q : Exit → Act → World → Prop} {n : Nat} {T : Array Bool → Act → World → Prop}
theorem wpAnyC.grow (Gt : ∀ a b c, G a b → G b c → G a c) : ∀ {f : Nat} {listed : Array Bool} {a : Act} {w w' : World}, G w w' → wpAnyC P md ops Q n G S T f listed a w → wpAnyC P md ops Q n G S T f listed a w'
  | 0, _, _, _, _, hG, h => fun w2 h2 hS => h w2 (Gt _ _ _ hG h2) hS
  | f + 1, _, _, _, _, hG, h => fun w2 h2 hS => h w2 (Gt _ _ _ hG h2) hS

theorem wpAny_of_C {g : Nat} (Gr : ∀ w, G w w) (hT : ∀ listed a w, T listed a w → wpAny P md ops Q g listed a w) :
    ∀ (f : Nat) (listed : Array Bool) (a : Act) (w : World), S w → wpAnyC P md ops Q n G S T f listed a w → wpAny P md ops Q (f + g) listed a w
  | 0, listed, a, w, hS, h => by rw [Nat.zero_add]; exact hT _ _ _ (h w (Gr w) hS)
  | f + 1, listed, a, w, hS, h => by
    rw [show f + 1 + g = (f + g) + 1 by omega]
    have h := h w (Gr w) hS
    exact ⟨fun h0 => absurd h0 h.1, fun i hi => wpOp_mono (fun a' w' h' => wpAny_of_C Gr hT f _ a' w' h'.1 h'.2) (h.2 i hi).2⟩

theorem wpAnyC_first {i : Nat} {oi : Oper} {v : Value} (hi : ops[i]? = some oi) (hsel : ∀ (j : Nat) (o : Oper) cs b, ops[j]? = some o → o.op ≠ .select cs b)
    (hQ : ∀ c a w, Q (.panic c) (a.put oi.dst v) w → Q (.panic c) a w) (hin : i < n)
    (head : ∀ listed, HeadInv md ops n listed → listed.getD i true = false → ∀ j ∈ Region.ready md ops listed, j < n)
    (hdone : ∀ listed a w, T listed a w → ∀ j ∈ Region.ready md ops listed, n ≤ j) (Gr : ∀ w, G w w) (Gt : ∀ a b c, G a b → G b c → G a c) :
    ∀ (f : Nat) (listed : Array Bool) (a : Act) (w : World), HeadInv md ops n listed →
      (∀ j oj, ops[j]? = some oj → j ≠ i → listed.getD j true = false → (∀ e ∈ oj.after, Region.binds md e = true → e.on ≠ i) → oi.apart ops oj = true) →
      i ∈ Region.ready md ops listed → YieldsC P ops G S oi v a →
      wpAnyC P md ops Q n G S T f (listed.setIfInBounds i true) (a.put oi.dst v) w → wpAnyC P md ops Q n G S T (f + 1) listed a w := by
  intro f
  induction f with
  | zero =>
    intro listed a w inv _ hr hy H w' hG hS
    have hun := (mem_ready.1 hr).1
    refine ⟨fun h => (by rw [h] at hr; cases hr), fun j hj => ?_⟩
    have hjn := head listed inv hun j hj
    refine ⟨hjn, ?_⟩
    by_cases hji : j = i
    · subst hji
      exact hy.wpOp hi Gr hS fun w1 hG1 hS1 => ⟨hS1, H.grow Gt (Gt _ _ _ hG hG1)⟩
    · have := hdone _ _ _ (H w' hG hS) j (ready_mono hj hji)
      omega
  | succ f ih =>
    intro listed a w inv hfree hr hy H w' hG hS
    have hun := (mem_ready.1 hr).1
    refine ⟨fun h => (by rw [h] at hr; cases hr), fun j hj => ?_⟩
    have hjn := head listed inv hun j hj
    refine ⟨hjn, ?_⟩
    by_cases hji : j = i
    · subst hji
      exact hy.wpOp hi Gr hS fun w1 hG1 hS1 => ⟨hS1, H.grow Gt (Gt _ _ _ hG hG1)⟩
    · have h1 := ((H w' hG hS).2 j (ready_mono hj hji)).2
      obtain ⟨hjun, oj, hoj, hall⟩ := mem_ready.1 hj
      have hnot : ∀ e ∈ oj.after, Region.binds md e = true → e.on ≠ i := fun e he hb heq => by
        have h1 := hall e he hb
        rw [heq, getD_both hun] at h1
        cases h1
      have h2 := wpOp_putC hoj (hfree j oj hoj hji hjun hnot) (fun cs b => hsel i oi cs b hi) (fun cs b => hsel j oj cs b hoj) hQ hy h1
      have hfree' : ∀ k ok, ops[k]? = some ok → k ≠ i → (listed.setIfInBounds j true).getD k true = false →
          (∀ e ∈ ok.after, Region.binds md e = true → e.on ≠ i) → oi.apart ops ok = true := fun k ok hk hki hun hno => by
        refine hfree k ok hk hki ?_ hno
        by_cases hjk : j = k
        · subst hjk; exact hjun
        · rw [getD_set_ne true hjk] at hun; exact hun
      refine wpOp_mono (fun a' w1 h3 => ⟨h3.2.1, ih (listed.setIfInBounds j true) a' w1 (inv.set hj hjn) hfree' (ready_mono hr (Ne.symm hji)) h3.1 ?_⟩) h2
      rw [Array.setIfInBounds_comm _ _ hji]
      exact h3.2.2

theorem wpAnyC_one {i f : Nat} {listed : Array Bool} {a : Act} {w : World} (hr : Region.ready md ops listed = [i]) (hin : i < n)
    (h : ∀ w', G w w' → S w' → wpOp P ops Q i (fun a' w1 => S w1 ∧ wpAnyC P md ops Q n G S T f (listed.setIfInBounds i true) a' w1) a w') : wpAnyC P md ops Q n G S T (f + 1) listed a w := by
  intro w' hG hS
  rw [hr]
  refine ⟨by simp, fun j hj => ?_⟩
  obtain rfl := List.mem_singleton.1 hj
  exact ⟨hin, h w' hG hS⟩
end

open Classical
variable {E : Env} {w w' w0 : World} {A0 : Fix} {g g' : Gh} {st st' : St} {N : Nat} {pv : List Value} {a : Act}

/-- A struct built of parts: it turns nothing, and reads nothing. -/
theorem wpOp_wt {E : Env} {w : World} {a : Act} {ops : Array Oper} {Q : Exit → Act → World → Prop} {i : Nat} {K : Act → World → Prop} {o : Oper} (hi : ops[i]? = some o) (hw : Region.wanted o (yielded ops a.tmps) = true)
    (h : o.wp E.P a w K Q) : wpOp E.P ops Q i K a w := by
  unfold Go.wpOp
  rw [hi]
  simp only
  rw [if_pos hw]
  exact .inl h
theorem build_pure (hE : EnvOk E) (h : RepSt w g st N pv a) {t : TypeId} {parts : Array (Nat × Operand)} {K : AV → Prop} {o : Oper} (ho : o.op = .build t parts)
    (hK : E.ti t fun ti => Tr (Nat.beq ti.kind 1) <| fillParts ti ti.zero (partsA st parts.toList) fun cs => K (.agg (nilFixes ti.zero cs))) :
    ∃ x v, K x ∧ (∀ w', (execOp a.eval o).run E.P w' = .ok (.value v) w') ∧ RepAV w g st x v := by
  unfold Env.ti at hK
  split at hK
  rotate_left
  · exact hK.elim
  rename_i ti hti
  obtain ⟨hkind, hK⟩ := hK.get
  have hkind := Nat.eq_of_beq_eq_true hkind
  have hT := hE.ti t ti hti
  obtain ⟨fs, hu, hfs, hpl, _⟩ := hT.struct hkind
  obtain ⟨z, hz1, hz2, hz3, hz4⟩ := hT.zero
  obtain ⟨it, hi1, _, _, z', hi2⟩ := hT.info
  have hzz : z' = z := by
    have := hz1 w
    simp [zeroValue, typeInfo, hi1, hi2] at this
    exact this
  subst hzz
  have hr0 : RepC w g st ti.zero z'.cells := ⟨by omega, fun j t u hj hu => by
    obtain ⟨q1, q2⟩ := hz4 j u t hu hj
    rcases q2 with rfl | ⟨k, rfl, rfl⟩
    · exact ⟨q1, rfl⟩
    · exact ⟨rfl, rfl, none, rfl⟩⟩
  obtain ⟨row', cells', hK, hf, hr⟩ := fillParts_ok h parts.toList ti.zero z'.cells hr0 hK
  refine ⟨_, .agg cells', hK, fun w' => ?_, ⟨cells', rfl, by rw [nilFixes_len]; exact hr.1, fun j t u hj hu => nilFixes_rep _ _ cells'.toList (fun j t u hj hu => hr.2 j t u hj (by simpa using hu)) j t u hj (by simpa using hu)⟩⟩
  have hb : E.P.built t (parts.map fun (i, x) => (i, a.eval x)).toList = some cells' := by
    unfold Program.built
    simp only [hi1, hu, hi2, hpl]
    rw [← hf]
    congr 1
    · funext x; simp
    · simp
  have := run_build w' t _ cells' hb
  simp [execOp, ho, this]
theorem alloc_up (hE : EnvOk E) {t : TypeId} {ti : TI} (hti : E.tab t = some ti) {o : Oper} (ho : o.op = .alloc t) {nx : Next} (hrun : (execOp a.eval o).run E.P w = .ok nx w') : Up w w' := by
  obtain ⟨z, h1, _⟩ := (hE.ti t ti hti).zero
  have : (execOp a.eval o).run E.P w = .ok (.value (.pointer (some ⟨w.heap.size, 0, none⟩))) { w with heap := w.heap.push (.cells z.cells t) } := by
    simp [execOp, ho, Instr.alloc, h1, newVar, run_newRow]
  rw [this] at hrun
  cases hrun
  intro b hb
  simp [Array.getElem?_push, Nat.ne_of_lt hb]

theorem Fr.cls (h : Fr w0 A0 w g) (hc : Cls w w') : Fr w0 A0 w' g := by
  refine ⟨hc.1.trans h.os, hc.2.1.trans h.tape, hc.2.2.1.trans h.output, Nat.le_trans h.size hc.2.2.2.1, h.x, fun b hb hA => ?_, fun b hb => (bsz_of (hc.2.2.2.2 b (Nat.lt_of_lt_of_le hb h.size))).trans (h.bs b hb)⟩
  obtain ⟨p1, p2⟩ := h.blk b hb hA
  exact ⟨(hc.2.2.2.2 b (Nat.lt_of_lt_of_le hb h.size)).trans p1, p2⟩
theorem Cls.refl (w : World) : Cls w w := ⟨rfl, rfl, rfl, Nat.le_refl _, .refl w⟩
theorem Cls.trans {a b c : World} (h : Cls a b) (k : Cls b c) : Cls a c :=
  ⟨k.1.trans h.1, k.2.1.trans h.2.1, k.2.2.1.trans h.2.2.1, Nat.le_trans h.2.2.2.1 k.2.2.2.1, fun x hx => (k.2.2.2.2 x (Nat.lt_of_lt_of_le hx h.2.2.2.1)).trans (h.2.2.2.2 x hx)⟩
def Sx (u : World) : World → Prop := fun w => Up u w ∧ u.heap.size ≤ w.heap.size
theorem Sx.cls {u w w' : World} (h : Sx u w) (k : Cls w w') : Sx u w' := ⟨fun x hx => (k.2.2.2.2 x (Nat.lt_of_lt_of_le hx h.2)).trans (h.1 x hx), Nat.le_trans h.2 k.2.2.2.1⟩

theorem wpOpsC_ok (hE : EnvOk E) (hG : GOk E.P w0 (A0.G w0)) {F : Nat → List AV → Out → Prop} (hFn : ∀ f as out, F f as out → FnOk E.P f as out) {ops : Array Oper} {Qa : St → Prop} {Q : Exit → Act → World → Prop} {u : World} {n : Nat}
    (hs : Region.noSelect ops = true) (hp : ∀ c a w, Q (.panic c) a w → False)
    (hQ : ∀ st' a' w' g', Qa st' → RepSt w' g' st' N pv a' → Fr w0 A0 w' g' → Q .normal a' w') (hd : ∀ o ∈ ops.toList, DstOk N o.dst)
    (head : ∀ i, i < n → ∀ listed, HeadInv .any ops n listed → listed.getD i true = false → ∀ j ∈ Region.ready .any ops listed, j < n) :
    ∀ (l : List (Nat × Bool)) (ph : Bool) (listed : Array Bool) (st : St) (g : Gh) (a : Act) (b : World), Sx u b → (ph = true → b = u) → heldC ops n ph l listed = true → HeadInv .any ops n listed → RepSt b g st N pv a → Fr w0 A0 b g → wpOpsC E F ops n Qa l st →
      wpAnyC E.P .any ops Q n Cls (Sx u) (fun listed a w => Region.seqB .any ops (ops.size - n) n listed = true ∧ wpList E.P ops Q (ops.toList.drop n) a w) l.length listed a b
  | [], ph, listed, st, g, a, b, hb, hph, hB, inv, h, hF, hK => by
    intro w' hc hS
    exact ⟨hB, wpOps_ok hE hG hFn hQ (ops.toList.drop n) st g a w' (h.up hc.2.2.2.2 hc.2.2.2.1) (hF.cls hc) (fun o ho => hd o (List.mem_of_mem_drop ho)) hK⟩
  | (i, q) :: l, ph, listed, st, g, a, b, hb, hph, hB, inv, h, hF, hK => by
    have ih := wpOpsC_ok (u := u) (n := n) hE hG hFn hs hp hQ hd head l
    simp only [wpOpsC, stK_eq] at hK
    simp only [heldC, Bool.and_eq_true, Nat.blt_eq] at hB
    obtain ⟨hin, hB⟩ := hB
    cases hi : ops.toList[i]? with
    | none => rw [hi] at hK; exact hK.elim
    | some o =>
      have hia : ops[i]? = some o := by simpa using hi
      have hdo : DstOk N o.dst := hd o (List.mem_of_getElem? hi)
      rw [hi] at hK
      obtain ⟨d, op, ty, pos, after, gd⟩ := o
      have main : ∀ (st : St), Region.wanted ⟨d, op, ty, pos, after, gd⟩ (yielded ops a.tmps) = true → RepSt b g st N pv a →
          (bif Op.pureA op then opP E true op ty st fun a => wpOpsC E F ops n Qa l (st.set d a)
            else bif q then quietC E F op st fun a => wpOpsC E F ops n Qa l (st.set d a)
            else chainC E F op ty st fun st a => wpOpsC E F ops n Qa l (st.set d a)) →
          wpAnyC E.P .any ops Q n Cls (Sx u) (fun listed a w => Region.seqB .any ops (ops.size - n) n listed = true ∧ wpList E.P ops Q (ops.toList.drop n) a w) (l.length + 1) listed a b := by
        clear hK h
        intro st hwt h hK
        cases q with
        | true =>
          simp only [cond_true, Bool.and_eq_true] at hB
          obtain ⟨b1, b2, b3, b4⟩ := hB
          have hbu := hph b1
          subst hbu
          have hr : i ∈ Region.ready .any ops listed := by simpa using b3
          have fin : ∀ (x : AV) (v : Value), wpOpsC E F ops n Qa l (st.set d x) → RepAV b g st x v → YieldsC E.P ops Cls (Sx b) ⟨d, op, ty, pos, after, gd⟩ v a →
              wpAnyC E.P .any ops Q n Cls (Sx b) (fun listed a w => Region.seqB .any ops (ops.size - n) n listed = true ∧ wpList E.P ops Q (ops.toList.drop n) a w) (l.length + 1) listed a b := by
            intro x v hx hrep hy
            exact wpAnyC_first (v := v) hia (Region.noSelect_spec hs) (fun c a w hq => (hp _ _ _ hq).elim) hin (head i hin) (fun listed a w hT => seqB_ready hT.1) Cls.refl (fun _ _ _ => Cls.trans) l.length listed a b inv (Region.free_spec hia b2) hr hy
              (ih ph _ _ g _ b hb hph b4 (inv.set hr hin) (h.put hrep hdo) hF hx)
          cases hpu : Op.pureA op with
          | true =>
            rw [hpu] at hK
            simp only [cond_true] at hK
            obtain ⟨x, hx, hr⟩ := opP_ok (o := ⟨d, op, ty, pos, after, gd⟩) hE h rfl hK
            obtain ⟨v, hv, hr⟩ := hr rfl
            refine fin x v hx hr (.inl ⟨hwt, fun w' hw' => ?_⟩)
            unfold Oper.quietAt
            rw [hv w' hw'.1]
            exact ⟨rfl, rfl⟩
          | false =>
            rw [hpu] at hK
            simp only [cond_false, cond_true] at hK
            unfold quietC at hK
            split at hK
            · obtain ⟨x, v, hx, hv, hr⟩ := build_pure (K := fun a => wpOpsC E F ops n Qa l (st.set d a)) (o := ⟨d, _, ty, pos, after, gd⟩) hE h rfl hK
              refine fin x v hx hr (.inl ⟨hwt, fun w' hw' => ?_⟩)
              unfold Oper.quietAt
              rw [hv w']
              exact ⟨rfl, rfl⟩
            · unfold callQ at hK
              split at hK
              · rename_i x args tys heq
                split at hK
                · rename_i f caps hf
                  unfold callG at hK
                  split at hK
                  rotate_left
                  · exact hK.elim
                  rename_i as has
                  obtain ⟨as', r, hFa, hFz, hK⟩ := hK
                  obtain ⟨hfn, hr1, cvs, hv, hC⟩ := callQ_ok h (hF.gok hG) hFn hf has ⟨as', hFa, hFz⟩
                  refine fin (.one (.v r)) r hK ⟨hr1, rfl⟩ (.inl ⟨hwt, fun w' hw' => ?_⟩)
                  unfold Oper.quietAt
                  rw [run_enter heq hv hfn w']
                  refine ⟨rfl, (hC w' hw'.1 hw'.2).mono ?_⟩
                  rintro e w2 ⟨he, h1, h2, h3, h4, h5⟩
                  have hc : Cls w' w2 := ⟨h1, h2, h3, h4, h5⟩
                  exact ⟨he, hc, hw'.cls hc⟩
                · exact hK.elim
              · exact hK.elim
            · exact hK.elim
        | false =>
          simp only [cond_false, Bool.and_eq_true, beq_iff_eq] at hB
          have hr : i ∈ Region.ready .any ops listed := by rw [hB.1]; simp
          refine wpAnyC_one hB.1 hin fun w' hc hS => ?_
          have h' := h.up hc.2.2.2.2 hc.2.2.2.1
          have hF' := hF.cls hc
          refine wpOp_wt hia hwt ?_
          cases hpu : Op.pureA op with
          | true =>
            rw [hpu] at hK
            simp only [cond_true] at hK
            obtain ⟨x, hx, hr'⟩ := opP_ok (o := ⟨d, op, ty, pos, after, gd⟩) hE h' rfl hK
            obtain ⟨v, hv, hr'⟩ := hr' rfl
            unfold Oper.wp
            rw [hv w' (.refl w')]
            exact ⟨hS, ih false _ _ g _ w' hS (fun h => by cases h) hB.2 (inv.set hr hin) (h'.put hr' hdo) hF' hx⟩
          | false =>
            rw [hpu] at hK
            simp only [cond_false] at hK
            unfold chainC at hK
            split at hK
            · unfold callH at hK
              split at hK
              · rename_i c x args tys heq
                cases heq
                exact call_wpU (o := ⟨d, .call ⟨.value x, args, tys⟩, ty, pos, after, gd⟩) h' hF' hG hFn rfl rfl hK (fun st' av v w1 g' hK' hR hA hF1 hU =>
                  have hs1 : w'.heap.size ≤ w1.heap.size := by
                    rcases Nat.lt_or_ge w1.heap.size w'.heap.size with hlt | hge
                    · have := hU w1.heap.size hlt
                      rw [Array.getElem?_eq_none (Nat.le_refl _)] at this
                      have h3 : w1.heap.size < w'.heap.size := hlt
                      simp [h3] at this
                    · exact hge
                  have hS' : Sx u w1 := ⟨fun y hy => (hU y (Nat.lt_of_lt_of_le hy hS.2)).trans (hS.1 y hy), Nat.le_trans hS.2 hs1⟩
                  ⟨hS', ih false _ _ g' _ w1 hS' (fun h => by cases h) hB.2 (inv.set hr hin) (hR.put hA hdo) hF1 hK'⟩)
              · exact hK.elim
            · rename_i t
              have hti : ∃ ti, E.tab t = some ti := by
                cases hti : E.tab t with
                | some ti => exact ⟨ti, rfl⟩
                | none =>
                  have h2 := hK
                  simp only [opS] at h2
                  unfold Env.ti at h2
                  rw [hti] at h2
                  exact h2.elim
              obtain ⟨ti, hti⟩ := hti
              obtain ⟨st', av, hK', nx, v, w1, g', hrun, hnx, hR, hA, hF1⟩ := alloc_ok (K := fun st a => wpOpsC E F ops n Qa l (st.set d a)) (o := ⟨d, .alloc t, ty, pos, after, gd⟩) hE h' hF' rfl (by simpa only [opS] using hK)
              have hU := alloc_up (o := ⟨d, .alloc t, ty, pos, after, gd⟩) hE hti rfl hrun
              have hs1 : w'.heap.size ≤ w1.heap.size := by
                rcases Nat.lt_or_ge w1.heap.size w'.heap.size with hlt | hge
                · have := hU w1.heap.size hlt
                  rw [Array.getElem?_eq_none (Nat.le_refl _)] at this
                  have h3 : w1.heap.size < w'.heap.size := hlt
                  simp [h3] at this
                · exact hge
              have hS' : Sx u w1 := ⟨fun y hy => (hU y (Nat.lt_of_lt_of_le hy hS.2)).trans (hS.1 y hy), Nat.le_trans hS.2 hs1⟩
              unfold Oper.wp
              rw [hrun]
              rcases hnx with rfl | ⟨rfl, rfl⟩
              · exact ⟨hS', ih false _ _ g' _ w1 hS' (fun h => by cases h) hB.2 (inv.set hr hin) (hR.put hA hdo) hF1 hK'⟩
              · exact ⟨hS', ih false _ _ g' _ w1 hS' (fun h => by cases h) hB.2 (inv.set hr hin) (hR.put hA hdo) hF1 hK'⟩
            · rename_i t parts
              unfold quietC at hK
              obtain ⟨x, v, hx, hv, hr'⟩ := build_pure (K := fun a => wpOpsC E F ops n Qa l (st.set d a)) (o := ⟨d, .build t parts, ty, pos, after, gd⟩) hE h' rfl hK
              unfold Oper.wp
              rw [hv w']
              exact ⟨hS, ih false _ _ g _ w' hS (fun h => by cases h) hB.2 (inv.set hr hin) (h'.put hr' hdo) hF' hx⟩
            · exact hK.elim
      cases gd with
      | none => exact main st rfl h hK
      | some jw =>
        obtain ⟨j, want⟩ := jw
        obtain ⟨gb, st1, hw, h, hK1, hK0⟩ := guardD_ok (o := ⟨d, op, ty, pos, after, some (j, want)⟩) h hK rfl
        cases gb with
        | true => exact main st1 hw h (hK1 rfl)
        | false =>
          have hKz := hK0 rfl
          have hput := h.put (d := d) (av := .may false .no) (v := undef) ⟨fun h => (by cases h), fun _ => rfl⟩ hdo
          cases q with
          | true =>
            simp only [cond_true, Bool.and_eq_true] at hB
            obtain ⟨b1, b2, b3, b4⟩ := hB
            have hbu := hph b1
            subst hbu
            have hr : i ∈ Region.ready .any ops listed := by simpa using b3
            exact wpAnyC_first (v := undef) hia (Region.noSelect_spec hs) (fun c a w hq => (hp _ _ _ hq).elim) hin (head i hin) (fun listed a w hT => seqB_ready hT.1) Cls.refl (fun _ _ _ => Cls.trans) l.length listed a b inv (Region.free_spec hia b2) hr (.inr ⟨hw, rfl⟩)
              (ih ph _ _ g _ b hb hph b4 (inv.set hr hin) hput hF hKz)
          | false =>
            simp only [cond_false, Bool.and_eq_true, beq_iff_eq] at hB
            have hr : i ∈ Region.ready .any ops listed := by rw [hB.1]; simp
            refine wpAnyC_one hB.1 hin fun w' hc hS => ?_
            unfold Go.wpOp
            rw [hia]
            simp only
            rw [if_neg (by rw [hw]; simp)]
            exact ⟨hS, ih false _ _ g _ w' hS (fun h => by cases h) hB.2 (inv.set hr hin) (hput.up hc.2.2.2.2 hc.2.2.2.1) (hF.cls hc) hKz⟩
end Go.Ev
