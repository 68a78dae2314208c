/- What the functions under FnExactBalanced answer. -/
import Derived.Test.YtbfbnamkgcanbaaEvS
import Derived.Test.YtbfbnamkgcanbaaEvW
import Derived.Test.YtbfbnamkgcanbaaProg
namespace Go.Proofs.Try.Ev
open Go Go.Ev
set_option maxHeartbeats 4000000
set_option maxRecDepth 100000

noncomputable def env : Env := envOf Go.Proofs.Try.prog fun _ => none
theorem wide : env.P.follows .mixedOrders = true := by kernel_rfl
theorem envOk : EnvOk env := ⟨fun t ti h => tiOf_ok h, fun t ks h => by cases h⟩
theorem tab3 : env.tab 3 = some ⟨1, 0, [.v (.int .i64 0)], [], [], 0, 0, 8, some .i64⟩ := by kernel_rfl
theorem tab4 : env.tab 4 = some ⟨1, 3, [.v (.bool false)], [], [], 0, 0, 1, none⟩ := by kernel_rfl
theorem tab23 : env.tab 23 = some ⟨5, 1, [.v (.int .i64 0), .v (.int .i64 0), .v (.int .i64 0), .v (.int .i64 0), .v (.int .i64 0)], [0,1,2,3,4], [1,1,1,1,1], 0, 0, 40, none⟩ := by kernel_rfl
theorem tab25 : env.tab 25 = some ⟨5, 1, [.v (.int .i64 0), .v (.int .i64 0), .v (.int .i64 0), .v (.int .i64 0), .v (.int .i64 0)], [0,1,2,3,4], [1,1,1,1,1], 0, 0, 40, none⟩ := by kernel_rfl

def five (a b c d e : Int) : List T := [.v (.int .i64 a), .v (.int .i64 b), .v (.int .i64 c), .v (.int .i64 d), .v (.int .i64 e)]
def bal (a b c d e : Int) : Bool := a == IntKind.i64.wrap (IntKind.i64.wrap (IntKind.i64.wrap (b + c) + d) + e)

theorem c13 (a b c d e : Int) : FnOk prog 13 [.agg (five a b c d e)] ⟨.one (.v (.bool (bal a b c d e))), [], [], false⟩ := by
  refine FnOk.intro (E := env) envOk wide func13 rfl (by kernel_rfl) rfl rfl ?_
  simp only [f13, five, bal, go_sem, Nat.reduceBEq, Nat.reduceAdd, Nat.reduceLT, Nat.reduceLeDiff, tab3, tab4, tab25]

theorem c15 (a b c d e : Int) : FnOk prog 15 [.agg (five a b c d e)] ⟨.one (.v (.bool (bal a b c d e))), [], [], false⟩ := by
  refine FnOk.intro (E := env) envOk wide func15 rfl (by kernel_rfl) rfl rfl ?_
  simp only [f15, five, bal, go_sem, Nat.reduceBEq, Nat.reduceAdd, Nat.reduceLT, Nat.reduceLeDiff, tab3, tab4, tab25]

theorem c14 (a b c d e : Int) : FnOk prog 14 [.agg (five a b c d e)] ⟨.agg (five a b c d e), [], [], false⟩ := by
  refine FnOk.intro (E := env) envOk wide func14 rfl (by kernel_rfl) rfl rfl ?_
  simp only [f14, five, bal, go_sem, Nat.reduceBEq, Nat.reduceAdd, Nat.reduceLT, Nat.reduceLeDiff, tab3, tab4, tab23, tab25]

theorem c3 (a b c d e : Int) : FnOk prog 3 [.agg (five a b c d e)] ⟨.one (.v (.bool true)), [], [], false⟩ := by
  refine FnOk.intro (E := env) envOk wide func3 rfl (by kernel_rfl) rfl rfl ?_
  simp only [f3, five, go_sem, Nat.reduceBEq, Nat.reduceAdd, Nat.reduceLT, Nat.reduceLeDiff, tab3, tab4, tab23, tab25]
  refine ⟨_, c14 a b c d e, ?_⟩
  simp only [five, go_sem, Nat.reduceBEq, Nat.reduceAdd, Nat.reduceLT, Nat.reduceLeDiff, tab3, tab4, tab23, tab25]
  refine ⟨_, c13 a b c d e, ?_⟩
  simp only [five, go_sem, Nat.reduceBEq, Nat.reduceAdd, Nat.reduceLT, Nat.reduceLeDiff, tab3, tab4, tab23, tab25]
  refine ⟨_, c14 a b c d e, ?_⟩
  simp only [five, go_sem, Nat.reduceBEq, Nat.reduceAdd, Nat.reduceLT, Nat.reduceLeDiff, tab3, tab4, tab23, tab25]
  refine ⟨_, c15 a b c d e, ?_⟩
  simp only [five, go_sem, Nat.reduceBEq, Nat.reduceAdd, Nat.reduceLT, Nat.reduceLeDiff, tab3, tab4, tab23, tab25]
  cases bal a b c d e <;> simp
end Go.Proofs.Try.Ev
