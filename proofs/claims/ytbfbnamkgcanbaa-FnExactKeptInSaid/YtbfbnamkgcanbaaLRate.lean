/- Sums over deeds in a span of time. -/
import Derived.Test.YtbfbnamkgcanbaaLCount
namespace Go.Proofs.Try.Ev
open Go Go.Ev
set_option maxHeartbeats 4000000
set_option maxRecDepth 100000
set_option linter.unusedSimpArgs false
set_option linter.unusedVariables false
def within (n lo hi : Int) : Bool := decide (lo ≤ n ∧ n ≤ hi)
def judgedIn (lo hi : Int) (d : Deed) : Bool := decide (d.op = 2 ∧ d.lin ≠ -1 ∧ lo ≤ d.now ∧ d.now ≤ hi)
def keptF (lo hi n : Int) (d : Deed) : Int := if judgedIn lo hi d = true ∧ d.keep = true then IntKind.i64.wrap (n + d.n) else n
def tookF (lo hi n : Int) (d : Deed) : Int := if judgedIn lo hi d = true then IntKind.i64.wrap (n + d.took) else n

theorem c67 (n lo hi : Int) : FnOk prog 67 [.one (.v (.int .i64 n)), .one (.v (.int .i64 lo)), .one (.v (.int .i64 hi))] ⟨.one (.v (.bool (within n lo hi))), [], [], false⟩ := by
  refine FnOk.intro (E := env) envOk wide func67 rfl (by kernel_rfl) rfl rfl ?_
  simp only [f67, go_sem, Nat.reduceBEq, Nat.reduceAdd, Nat.reduceLT, Nat.reduceLeDiff, decide_true, beq_true, imp_self]
  have : (bif decide (n ≥ lo) then decide (n ≤ hi) else false) = within n lo hi := by
    unfold within
    by_cases h : lo ≤ n <;> simp [h]
  rw [this]


theorem c77 (n lo hi : Int) : FnOk prog 77 [.one (.v (.int .i64 n)), .one (.v (.int .i64 lo)), .one (.v (.int .i64 hi))] ⟨.one (.v (.bool (within n lo hi))), [], [], false⟩ := by
  refine FnOk.intro (E := env) envOk wide func77 rfl (by kernel_rfl) rfl rfl ?_
  simp only [f77, go_sem, Nat.reduceBEq, Nat.reduceAdd, Nat.reduceLT, Nat.reduceLeDiff, decide_true, beq_true, imp_self]
  have : (bif decide (n ≥ lo) then decide (n ≤ hi) else false) = within n lo hi := by
    unfold within
    by_cases h : lo ≤ n <;> simp [h]
  rw [this]


theorem c66 (o : Bool) (d : Deed) (lo hi : Int) : FnOk prog 66 [.agg (Deed.cells false o d), .one (.v (.int .i64 lo)), .one (.v (.int .i64 hi))] ⟨.one (.v (.bool (judgedIn lo hi d))), [], [], false⟩ := by
  refine FnOk.intro (E := env) envOk wide func66 rfl (by kernel_rfl) rfl rfl ?_
  simp only [f66, Deed.cells, go_sem, Nat.reduceBEq, Nat.reduceAdd, Nat.reduceLT, Nat.reduceLeDiff, decide_true, beq_true, imp_self]
  refine ⟨_, fun _ => c77 _ _ _, ?_⟩
  simp only [gK, go_sem, Nat.reduceBEq, Nat.reduceAdd, Nat.reduceLT, Nat.reduceLeDiff, decide_true, beq_true, imp_self]
  unfold judgedIn within
  by_cases h1 : d.op = 2 <;> by_cases h2 : d.lin = -1 <;> simp [h1, h2]


theorem c39 (o : Bool) (l : List Deed) (lo hi : Int) (hl : l.length ≤ 1048576) : FnOk prog 39 [.one (.s false 20 (l.map (Deed.cells o o))), .one (.v (.int .i64 lo)), .one (.v (.int .i64 hi))] ⟨.one (.v (.int .i64 (l.foldl (keptF lo hi) 0))), [], [], false⟩ := by
  refine FnOk.intro (E := env) envOk wide func39 rfl (by kernel_rfl) rfl rfl ?_
  simp only [f39, go_sem, Nat.reduceBEq, Nat.reduceAdd, Nat.reduceLT, Nat.reduceLeDiff, List.length_map]
  refine ⟨FoldSt (keptF lo hi) l 0, fun x => ⟨[(0, .one (.s false 20 (l.map (Deed.cells o o)))), (1, .one (.v (.int .i64 lo))), (2, .one (.v (.int .i64 hi))), (7, .one (.v (.int .i64 x.n))), (8, .one (.v (.int .i64 x.i)))], [], []⟩, fun x => l.length - x.i, ⟨⟨0, Nat.zero_le _, _, rfl⟩, ?_⟩, fun x => ?_⟩
  · simp [-List.map_take, cuts, agrees, tmBelow, obBelow, AV.under, AV.under1, T.under, T.under0, Go.Ev.look]
  · by_cases hix : x.i < l.length
    · have hi' : ((x.i : Int) < (l.length : Int)) = True := by simp [hix]
      have h0 : (0 ≤ (x.i : Int)) = True := by simp
      have hw : IntKind.i64.wrap ((x.i : Int) + 1) = ((x.i + 1 : Nat) : Int) := by rw [wrap_small] <;> omega
      simp only [go_sem, Nat.reduceBEq, Nat.reduceAdd, Nat.reduceLT, Nat.reduceLeDiff, List.length_map, hi', h0, decide_true, Int.toNat_natCast, getD_map _ _ _ hix, Deed.cells, decide_true, beq_true, imp_self]
      refine ⟨_, c66 o l[x.i] lo hi, ?_⟩
      simp only [gK, go_sem, Nat.reduceBEq, Nat.reduceAdd, Nat.reduceLT, Nat.reduceLeDiff, List.length_map, hi', h0, decide_true, Int.toNat_natCast, getD_map _ _ _ hix, Deed.cells, decide_true, beq_true, imp_self]
      refine ⟨fun h => ⟨x.step hix, ?_, ?_⟩, fun h => ⟨x.step hix, ?_, ?_⟩⟩
      · show l.length - (x.i + 1) < l.length - x.i
        omega
      · simp [-List.map_take, cuts, agrees, tmBelow, obBelow, AV.under, AV.under1, T.under, T.under0, Go.Ev.look, hw, FoldSt.step, keptF, judgedIn, within]
        simp [judgedIn, within] at h
        first | (simp [h]; done) | (simp_all; done) | grind
      · show l.length - (x.i + 1) < l.length - x.i
        omega
      · simp [-List.map_take, cuts, agrees, tmBelow, obBelow, AV.under, AV.under1, T.under, T.under0, Go.Ev.look, hw, FoldSt.step, keptF, judgedIn, within]
        simp [judgedIn, within] at h
        first | (simp [h]; done) | (simp_all; done) | grind
    · have hi' : ((x.i : Int) < (l.length : Int)) = False := by simp; omega
      simp only [go_sem, Nat.reduceBEq, Nat.reduceAdd, Nat.reduceLT, Nat.reduceLeDiff, List.length_map, hi', decide_false]
      rw [x.done hix]


theorem c40 (o : Bool) (l : List Deed) (lo hi : Int) (hl : l.length ≤ 1048576) : FnOk prog 40 [.one (.s false 20 (l.map (Deed.cells o o))), .one (.v (.int .i64 lo)), .one (.v (.int .i64 hi))] ⟨.one (.v (.int .i64 (l.foldl (keptF lo hi) 0))), [], [], false⟩ := by
  refine FnOk.intro (E := env) envOk wide func40 rfl (by kernel_rfl) rfl rfl ?_
  simp only [f40, go_sem, Nat.reduceBEq, Nat.reduceAdd, Nat.reduceLT, Nat.reduceLeDiff, List.length_map]
  refine ⟨FoldSt (keptF lo hi) l 0, fun x => ⟨[(0, .one (.s false 20 (l.map (Deed.cells o o)))), (1, .one (.v (.int .i64 lo))), (2, .one (.v (.int .i64 hi))), (10, .one (.s false 20 (l.map (Deed.cells o o)))), (11, .one (.v (.int .i64 l.length))), (7, .one (.v (.int .i64 x.n))), (12, .one (.v (.int .i64 x.i)))], [], []⟩, fun x => l.length - x.i, ⟨⟨0, Nat.zero_le _, _, rfl⟩, ?_⟩, fun x => ?_⟩
  · simp [-List.map_take, cuts, agrees, tmBelow, obBelow, AV.under, AV.under1, T.under, T.under0, Go.Ev.look]
  · by_cases hix : x.i < l.length
    · have hi' : ((x.i : Int) < (l.length : Int)) = True := by simp [hix]
      have h0 : (0 ≤ (x.i : Int)) = True := by simp
      have hw : IntKind.i64.wrap ((x.i : Int) + 1) = ((x.i + 1 : Nat) : Int) := by rw [wrap_small] <;> omega
      simp only [go_sem, Nat.reduceBEq, Nat.reduceAdd, Nat.reduceLT, Nat.reduceLeDiff, List.length_map, hi', h0, decide_true, Int.toNat_natCast, getD_map _ _ _ hix, Deed.cells, decide_true, beq_true, imp_self]
      refine ⟨_, fun _ => c67 _ _ _, ?_⟩
      simp only [gK, go_sem, Nat.reduceBEq, Nat.reduceAdd, Nat.reduceLT, Nat.reduceLeDiff, List.length_map, hi', h0, decide_true, Int.toNat_natCast, getD_map _ _ _ hix, Deed.cells, decide_true, beq_true, imp_self]
      refine ⟨fun h => ⟨x.step hix, ?_, ?_⟩, fun h => ⟨x.step hix, ?_, ?_⟩⟩
      · show l.length - (x.i + 1) < l.length - x.i
        omega
      · simp [-List.map_take, cuts, agrees, tmBelow, obBelow, AV.under, AV.under1, T.under, T.under0, Go.Ev.look, hw, FoldSt.step, keptF, judgedIn, within]
        simp [judgedIn, within] at h
        first | (simp [h]; done) | (simp_all; done) | grind
      · show l.length - (x.i + 1) < l.length - x.i
        omega
      · simp [-List.map_take, cuts, agrees, tmBelow, obBelow, AV.under, AV.under1, T.under, T.under0, Go.Ev.look, hw, FoldSt.step, keptF, judgedIn, within]
        simp [judgedIn, within] at h
        first | (simp [h]; done) | (simp_all; done) | grind
    · have hi' : ((x.i : Int) < (l.length : Int)) = False := by simp; omega
      simp only [go_sem, Nat.reduceBEq, Nat.reduceAdd, Nat.reduceLT, Nat.reduceLeDiff, List.length_map, hi', decide_false]
      rw [x.done hix]


theorem c41 (o : Bool) (l : List Deed) (lo hi : Int) (hl : l.length ≤ 1048576) : FnOk prog 41 [.one (.s false 20 (l.map (Deed.cells o o))), .one (.v (.int .i64 lo)), .one (.v (.int .i64 hi))] ⟨.one (.v (.int .i64 (l.foldl (tookF lo hi) 0))), [], [], false⟩ := by
  refine FnOk.intro (E := env) envOk wide func41 rfl (by kernel_rfl) rfl rfl ?_
  simp only [f41, go_sem, Nat.reduceBEq, Nat.reduceAdd, Nat.reduceLT, Nat.reduceLeDiff, List.length_map]
  refine ⟨FoldSt (tookF lo hi) l 0, fun x => ⟨[(0, .one (.s false 20 (l.map (Deed.cells o o)))), (1, .one (.v (.int .i64 lo))), (2, .one (.v (.int .i64 hi))), (7, .one (.v (.int .i64 x.n))), (8, .one (.v (.int .i64 x.i)))], [], []⟩, fun x => l.length - x.i, ⟨⟨0, Nat.zero_le _, _, rfl⟩, ?_⟩, fun x => ?_⟩
  · simp [-List.map_take, cuts, agrees, tmBelow, obBelow, AV.under, AV.under1, T.under, T.under0, Go.Ev.look]
  · by_cases hix : x.i < l.length
    · have hi' : ((x.i : Int) < (l.length : Int)) = True := by simp [hix]
      have h0 : (0 ≤ (x.i : Int)) = True := by simp
      have hw : IntKind.i64.wrap ((x.i : Int) + 1) = ((x.i + 1 : Nat) : Int) := by rw [wrap_small] <;> omega
      simp only [go_sem, Nat.reduceBEq, Nat.reduceAdd, Nat.reduceLT, Nat.reduceLeDiff, List.length_map, hi', h0, decide_true, Int.toNat_natCast, getD_map _ _ _ hix, Deed.cells, decide_true, beq_true, imp_self]
      refine ⟨_, c66 o l[x.i] lo hi, ?_⟩
      simp only [gK, go_sem, Nat.reduceBEq, Nat.reduceAdd, Nat.reduceLT, Nat.reduceLeDiff, List.length_map, hi', h0, decide_true, Int.toNat_natCast, getD_map _ _ _ hix, Deed.cells, decide_true, beq_true, imp_self]
      refine ⟨fun h => ⟨x.step hix, ?_, ?_⟩, fun h => ⟨x.step hix, ?_, ?_⟩⟩
      · show l.length - (x.i + 1) < l.length - x.i
        omega
      · simp [-List.map_take, cuts, agrees, tmBelow, obBelow, AV.under, AV.under1, T.under, T.under0, Go.Ev.look, hw, FoldSt.step, tookF, judgedIn, within]
        simp [judgedIn, within] at h
        first | (simp [h]; done) | (simp_all; done) | grind
      · show l.length - (x.i + 1) < l.length - x.i
        omega
      · simp [-List.map_take, cuts, agrees, tmBelow, obBelow, AV.under, AV.under1, T.under, T.under0, Go.Ev.look, hw, FoldSt.step, tookF, judgedIn, within]
        simp [judgedIn, within] at h
        first | (simp [h]; done) | (simp_all; done) | grind
    · have hi' : ((x.i : Int) < (l.length : Int)) = False := by simp; omega
      simp only [go_sem, Nat.reduceBEq, Nat.reduceAdd, Nat.reduceLT, Nat.reduceLeDiff, List.length_map, hi', decide_false]
      rw [x.done hix]


theorem c42 (o : Bool) (l : List Deed) (lo hi : Int) (hl : l.length ≤ 1048576) : FnOk prog 42 [.one (.s false 20 (l.map (Deed.cells o o))), .one (.v (.int .i64 lo)), .one (.v (.int .i64 hi))] ⟨.one (.v (.int .i64 (l.foldl (tookF lo hi) 0))), [], [], false⟩ := by
  refine FnOk.intro (E := env) envOk wide func42 rfl (by kernel_rfl) rfl rfl ?_
  simp only [f42, go_sem, Nat.reduceBEq, Nat.reduceAdd, Nat.reduceLT, Nat.reduceLeDiff, List.length_map]
  refine ⟨FoldSt (tookF lo hi) l 0, fun x => ⟨[(0, .one (.s false 20 (l.map (Deed.cells o o)))), (1, .one (.v (.int .i64 lo))), (2, .one (.v (.int .i64 hi))), (10, .one (.s false 20 (l.map (Deed.cells o o)))), (11, .one (.v (.int .i64 l.length))), (7, .one (.v (.int .i64 x.n))), (12, .one (.v (.int .i64 x.i)))], [], []⟩, fun x => l.length - x.i, ⟨⟨0, Nat.zero_le _, _, rfl⟩, ?_⟩, fun x => ?_⟩
  · simp [-List.map_take, cuts, agrees, tmBelow, obBelow, AV.under, AV.under1, T.under, T.under0, Go.Ev.look]
  · by_cases hix : x.i < l.length
    · have hi' : ((x.i : Int) < (l.length : Int)) = True := by simp [hix]
      have h0 : (0 ≤ (x.i : Int)) = True := by simp
      have hw : IntKind.i64.wrap ((x.i : Int) + 1) = ((x.i + 1 : Nat) : Int) := by rw [wrap_small] <;> omega
      simp only [go_sem, Nat.reduceBEq, Nat.reduceAdd, Nat.reduceLT, Nat.reduceLeDiff, List.length_map, hi', h0, decide_true, Int.toNat_natCast, getD_map _ _ _ hix, Deed.cells, decide_true, beq_true, imp_self]
      refine ⟨_, fun _ => c67 _ _ _, ?_⟩
      simp only [gK, go_sem, Nat.reduceBEq, Nat.reduceAdd, Nat.reduceLT, Nat.reduceLeDiff, List.length_map, hi', h0, decide_true, Int.toNat_natCast, getD_map _ _ _ hix, Deed.cells, decide_true, beq_true, imp_self]
      refine ⟨fun h => ⟨x.step hix, ?_, ?_⟩, fun h => ⟨x.step hix, ?_, ?_⟩⟩
      · show l.length - (x.i + 1) < l.length - x.i
        omega
      · simp [-List.map_take, cuts, agrees, tmBelow, obBelow, AV.under, AV.under1, T.under, T.under0, Go.Ev.look, hw, FoldSt.step, tookF, judgedIn, within]
        simp [judgedIn, within] at h
        first | (simp [h]; done) | (simp_all; done) | grind
      · show l.length - (x.i + 1) < l.length - x.i
        omega
      · simp [-List.map_take, cuts, agrees, tmBelow, obBelow, AV.under, AV.under1, T.under, T.under0, Go.Ev.look, hw, FoldSt.step, tookF, judgedIn, within]
        simp [judgedIn, within] at h
        first | (simp [h]; done) | (simp_all; done) | grind
    · have hi' : ((x.i : Int) < (l.length : Int)) = False := by simp; omega
      simp only [go_sem, Nat.reduceBEq, Nat.reduceAdd, Nat.reduceLT, Nat.reduceLeDiff, List.length_map, hi', decide_false]
      rw [x.done hix]

end Go.Proofs.Try.Ev
