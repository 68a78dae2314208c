/- The laws FnExactKeptIn, FnExactTookIn, walked. -/
import Derived.Test.YtbfbnamkgcanbaaLRate
import Derived.Test.YtbfbnamkgcanbaaLDeedShapes
namespace Go.Proofs.Try.Ev
open Go Go.Ev
set_option maxHeartbeats 4000000
set_option maxRecDepth 100000
set_option linter.unusedSimpArgs false
set_option linter.unusedVariables false

theorem c11 (a : List Deed) (lo : Int) (hi : Int) (ha : wfS Deed.wf a) : FnOk prog 11 [.one (.s false 20 (a.map (Deed.cells false false))), .one (.v (.int .i64 lo)), .one (.v (.int .i64 hi))] ⟨.one (.v (.bool true)), [], [], false⟩ := by
  refine FnOk.intro (E := env) envOk wide func11 rfl (by kernel_rfl) rfl rfl ?_
  simp only [f11, go_sem, Nat.reduceBEq, Nat.reduceAdd, Nat.reduceLT, Nat.reduceLeDiff, List.length_map]
  refine ⟨_, c28 false a _ ha, ?_⟩
  simp only [go_sem, Nat.reduceBEq, Nat.reduceAdd, Nat.reduceLT, Nat.reduceLeDiff]
  intro h
  have h : ¬ szS szDeed a 1048576 < 0 := by simpa using h
  have hs : smallS Deed.small a := by
    rcases szS_ok szDeed_ok a 1048576 ha (by omega) (by omega) with h2 | h2
    · exact absurd h2 h
    · exact h2.1
  refine ⟨_, c30 false a hs, ?_⟩
  simp only [go_sem, Nat.reduceBEq, Nat.reduceAdd, Nat.reduceLT, Nat.reduceLeDiff, List.length_map, take_map]
  refine ⟨_, c39 true a lo hi hs.1, ?_⟩
  simp only [go_sem, Nat.reduceBEq, Nat.reduceAdd, Nat.reduceLT, Nat.reduceLeDiff, List.length_map, take_map]
  refine ⟨_, c30 false a hs, ?_⟩
  simp only [go_sem, Nat.reduceBEq, Nat.reduceAdd, Nat.reduceLT, Nat.reduceLeDiff, List.length_map, take_map]
  refine ⟨_, c40 true a lo hi hs.1, ?_⟩
  simp only [go_sem, Nat.reduceBEq, Nat.reduceAdd, Nat.reduceLT, Nat.reduceLeDiff, List.length_map, take_map]
  refine ⟨fun h => (by simp at h), fun _ => ?_⟩
  refine ⟨_, c30 false a hs, ?_⟩
  simp only [go_sem, Nat.reduceBEq, Nat.reduceAdd, Nat.reduceLT, Nat.reduceLeDiff, List.length_map, take_map]
  refine ⟨_, c32 true true a a hs, ?_⟩
  simp only [go_sem, Nat.reduceBEq, Nat.reduceAdd, Nat.reduceLT, Nat.reduceLeDiff, List.length_map, take_map, decide_true, Bool.not_true]


theorem c12 (a : List Deed) (lo : Int) (hi : Int) (ha : wfS Deed.wf a) : FnOk prog 12 [.one (.s false 20 (a.map (Deed.cells false false))), .one (.v (.int .i64 lo)), .one (.v (.int .i64 hi))] ⟨.one (.v (.bool true)), [], [], false⟩ := by
  refine FnOk.intro (E := env) envOk wide func12 rfl (by kernel_rfl) rfl rfl ?_
  simp only [f12, go_sem, Nat.reduceBEq, Nat.reduceAdd, Nat.reduceLT, Nat.reduceLeDiff, List.length_map]
  refine ⟨_, c28 false a _ ha, ?_⟩
  simp only [go_sem, Nat.reduceBEq, Nat.reduceAdd, Nat.reduceLT, Nat.reduceLeDiff]
  intro h
  have h : ¬ szS szDeed a 1048576 < 0 := by simpa using h
  have hs : smallS Deed.small a := by
    rcases szS_ok szDeed_ok a 1048576 ha (by omega) (by omega) with h2 | h2
    · exact absurd h2 h
    · exact h2.1
  refine ⟨_, c30 false a hs, ?_⟩
  simp only [go_sem, Nat.reduceBEq, Nat.reduceAdd, Nat.reduceLT, Nat.reduceLeDiff, List.length_map, take_map]
  refine ⟨_, c41 true a lo hi hs.1, ?_⟩
  simp only [go_sem, Nat.reduceBEq, Nat.reduceAdd, Nat.reduceLT, Nat.reduceLeDiff, List.length_map, take_map]
  refine ⟨_, c30 false a hs, ?_⟩
  simp only [go_sem, Nat.reduceBEq, Nat.reduceAdd, Nat.reduceLT, Nat.reduceLeDiff, List.length_map, take_map]
  refine ⟨_, c42 true a lo hi hs.1, ?_⟩
  simp only [go_sem, Nat.reduceBEq, Nat.reduceAdd, Nat.reduceLT, Nat.reduceLeDiff, List.length_map, take_map]
  refine ⟨fun h => (by simp at h), fun _ => ?_⟩
  refine ⟨_, c30 false a hs, ?_⟩
  simp only [go_sem, Nat.reduceBEq, Nat.reduceAdd, Nat.reduceLT, Nat.reduceLeDiff, List.length_map, take_map]
  refine ⟨_, c32 true true a a hs, ?_⟩
  simp only [go_sem, Nat.reduceBEq, Nat.reduceAdd, Nat.reduceLT, Nat.reduceLeDiff, List.length_map, take_map, decide_true, Bool.not_true]

end Go.Proofs.Try.Ev
