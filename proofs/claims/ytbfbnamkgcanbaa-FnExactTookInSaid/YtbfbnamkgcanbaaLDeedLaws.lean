/- Laws over deeds. -/
import Derived.Test.YtbfbnamkgcanbaaLCount
namespace Go.Proofs.Try.Ev
open Go Go.Ev
set_option maxHeartbeats 4000000
set_option maxRecDepth 100000
set_option linter.unusedSimpArgs false
set_option linter.unusedVariables false
/-- What a size tells. -/
def Szd {α : Type} (P W : α → Prop) (f : α → Int → Int) : Prop := ∀ x left, W x → 0 ≤ left → left ≤ 1048576 → f x left < 0 ∨ (P x ∧ 0 ≤ f x left ∧ f x left ≤ left)
theorem szAttr_ok : Szd Attr.small Attr.wf szAttr := by
  intro x left hw h0 h1
  obtain ⟨w1, w2⟩ := hw
  unfold szAttr
  have e1 : IntKind.i64.wrap (left - x.key.size) = left - x.key.size := by rw [wrap_small] <;> omega
  rw [e1]
  split
  · exact .inl (by omega)
  · have e2 : IntKind.i64.wrap (left - x.key.size - x.text.size) = left - x.key.size - x.text.size := by rw [wrap_small] <;> omega
    rw [e2]
    split
    · exact .inl (by omega)
    · exact .inr ⟨trivial, by omega, by omega⟩
theorem szL_ok {α : Type} {P W : α → Prop} {f : α → Int → Int} (h : Szd P W f) : ∀ (l : List α) (left : Int), (∀ x ∈ l, W x) → 0 ≤ left → left ≤ 1048576 → szL f l left < 0 ∨ ((∀ x ∈ l, P x) ∧ 0 ≤ szL f l left ∧ szL f l left ≤ left)
  | [], left, _, h0, h1 => .inr ⟨by simp, h0, Int.le_refl _⟩
  | x :: l, left, hw, h0, h1 => by
    unfold szL
    split
    · exact .inl (by omega)
    · rename_i hn
      rcases h x left (hw x (by simp)) h0 h1 with h2 | ⟨h2, h3, h4⟩
      · omega
      · rcases szL_ok h l (f x left) (fun x hx => hw x (by simp [hx])) h3 (by omega) with h5 | ⟨h5, h6, h7⟩
        · exact .inl h5
        · exact .inr ⟨fun y hy => by rcases List.mem_cons.1 hy with rfl | hy; exact h2; exact h5 y hy, h6, by omega⟩
theorem szS_ok {α : Type} {P W : α → Prop} {f : α → Int → Int} (h : Szd P W f) : Szd (smallS P) (wfS W) (szS f) := by
  intro l left hw h0 h1
  obtain ⟨w1, w2⟩ := hw
  unfold szS
  have e1 : IntKind.i64.wrap (left - (l.length : Int)) = left - l.length := by rw [wrap_small] <;> omega
  rw [e1]
  split
  · exact .inl (by omega)
  · rcases szL_ok h l (left - l.length) w2 (by omega) (by omega) with h5 | ⟨h5, h6, h7⟩
    · exact .inl h5
    · exact .inr ⟨⟨by omega, h5⟩, h6, by omega⟩
theorem szSpan_ok : Szd Span.small Span.wf szSpan := by
  intro x left hw h0 h1
  unfold szSpan
  rcases szS_ok szAttr_ok x.attrs left hw h0 h1 with h | ⟨h, h2, h3⟩
  · rw [if_pos h]; exact .inl (by omega)
  · rw [if_neg (by omega)]; exact .inr ⟨h, h2, h3⟩
theorem szDeed_ok : Szd Deed.small Deed.wf szDeed := by
  intro x left hw h0 h1
  unfold szDeed
  rcases szSpan_ok x.s left hw h0 h1 with h | ⟨h, h2, h3⟩
  · rw [if_pos h]; exact .inl (by omega)
  · rw [if_neg (by omega)]; exact .inr ⟨h, h2, h3⟩

theorem c8 (a : List Deed) (ha : wfS Deed.wf a) : FnOk prog 8 [.one (.s false 20 (a.map (Deed.cells false false)))] ⟨.one (.v (.bool true)), [], [], false⟩ := by
  refine FnOk.intro (E := env) envOk wide func8 rfl (by kernel_rfl) rfl rfl ?_
  simp only [f8, go_sem, Nat.reduceBEq, Nat.reduceAdd, Nat.reduceLT, Nat.reduceLeDiff, List.length_map]
  refine ⟨_, c28 false a _ ha, ?_⟩
  simp only [go_sem, Nat.reduceBEq, Nat.reduceAdd, Nat.reduceLT, Nat.reduceLeDiff]
  intro h
  have h : ¬ szS szDeed a 1048576 < 0 := by simpa using h
  have hs : smallS Deed.small a := by
    rcases szS_ok szDeed_ok a 1048576 ha (by omega) (by omega) with h2 | h2
    · exact absurd h2 h
    · exact h2.1
  refine ⟨_, c30 false a hs, ?_⟩
  simp only [go_sem, Nat.reduceBEq, Nat.reduceAdd, Nat.reduceLT, Nat.reduceLeDiff, List.length_map, take_map]
  refine ⟨_, c33 true a hs.1, ?_⟩
  simp only [go_sem, Nat.reduceBEq, Nat.reduceAdd, Nat.reduceLT, Nat.reduceLeDiff, List.length_map, take_map]
  refine ⟨_, c30 false a hs, ?_⟩
  simp only [go_sem, Nat.reduceBEq, Nat.reduceAdd, Nat.reduceLT, Nat.reduceLeDiff, List.length_map, take_map]
  refine ⟨_, c34 true a hs.1, ?_⟩
  simp only [go_sem, Nat.reduceBEq, Nat.reduceAdd, Nat.reduceLT, Nat.reduceLeDiff, List.length_map, take_map]
  refine ⟨fun h => (by simp at h), fun _ => ?_⟩
  refine ⟨_, c30 false a hs, ?_⟩
  simp only [go_sem, Nat.reduceBEq, Nat.reduceAdd, Nat.reduceLT, Nat.reduceLeDiff, List.length_map, take_map]
  refine ⟨_, c32 true true a a hs, ?_⟩
  simp only [go_sem, Nat.reduceBEq, Nat.reduceAdd, Nat.reduceLT, Nat.reduceLeDiff, List.length_map, take_map, decide_true, Bool.not_true]

theorem c7 (a : List Deed) (code : Int) (ha : wfS Deed.wf a) : FnOk prog 7 [.one (.s false 20 (a.map (Deed.cells false false))), .one (.v (.int .i64 code))] ⟨.one (.v (.bool true)), [], [], false⟩ := by
  refine FnOk.intro (E := env) envOk wide func7 rfl (by kernel_rfl) rfl rfl ?_
  simp only [f7, go_sem, Nat.reduceBEq, Nat.reduceAdd, Nat.reduceLT, Nat.reduceLeDiff, List.length_map]
  refine ⟨_, c28 false a _ ha, ?_⟩
  simp only [go_sem, Nat.reduceBEq, Nat.reduceAdd, Nat.reduceLT, Nat.reduceLeDiff]
  intro h
  have h : ¬ szS szDeed a 1048576 < 0 := by simpa using h
  have hs : smallS Deed.small a := by
    rcases szS_ok szDeed_ok a 1048576 ha (by omega) (by omega) with h2 | h2
    · exact absurd h2 h
    · exact h2.1
  refine ⟨_, c30 false a hs, ?_⟩
  simp only [go_sem, Nat.reduceBEq, Nat.reduceAdd, Nat.reduceLT, Nat.reduceLeDiff, List.length_map, take_map]
  refine ⟨_, c29 true a code hs.1, ?_⟩
  simp only [go_sem, Nat.reduceBEq, Nat.reduceAdd, Nat.reduceLT, Nat.reduceLeDiff, List.length_map, take_map]
  refine ⟨_, c30 false a hs, ?_⟩
  simp only [go_sem, Nat.reduceBEq, Nat.reduceAdd, Nat.reduceLT, Nat.reduceLeDiff, List.length_map, take_map]
  refine ⟨_, c31 true a code hs.1, ?_⟩
  simp only [go_sem, Nat.reduceBEq, Nat.reduceAdd, Nat.reduceLT, Nat.reduceLeDiff, List.length_map, take_map]
  refine ⟨fun h => (by simp at h), fun _ => ?_⟩
  refine ⟨_, c30 false a hs, ?_⟩
  simp only [go_sem, Nat.reduceBEq, Nat.reduceAdd, Nat.reduceLT, Nat.reduceLeDiff, List.length_map, take_map]
  refine ⟨_, c32 true true a a hs, ?_⟩
  simp only [go_sem, Nat.reduceBEq, Nat.reduceAdd, Nat.reduceLT, Nat.reduceLeDiff, List.length_map, take_map, decide_true, Bool.not_true]
end Go.Proofs.Try.Ev
