/- Counts over deeds. -/
import Derived.Test.YtbfbnamkgcanbaaLSz
namespace Go.Proofs.Try.Ev
open Go Go.Ev
set_option maxHeartbeats 4000000
set_option maxRecDepth 100000
set_option linter.unusedSimpArgs false
set_option linter.unusedVariables false
structure FoldSt {α : Type} (f : Int → α → Int) (l : List α) (n0 : Int) where
  i : Nat
  h : i ≤ l.length
  n : Int
  e : (l.drop i).foldl f n = l.foldl f n0
def FoldSt.step {α : Type} {f : Int → α → Int} {l : List α} {n0 : Int} (x : FoldSt f l n0) (h : x.i < l.length) : FoldSt f l n0 :=
  ⟨x.i + 1, h, f x.n l[x.i], by
    have := x.e
    rw [List.drop_eq_getElem_cons h, List.foldl_cons] at this
    exact this⟩
theorem FoldSt.done {α : Type} {f : Int → α → Int} {l : List α} {n0 : Int} (x : FoldSt f l n0) (h : ¬ x.i < l.length) : l.foldl f n0 = x.n := by
  have := x.e
  rw [List.drop_eq_nil_of_le (by omega), List.foldl_nil] at this
  exact this.symm
def dropF (n : Int) (d : Deed) : Int := if d.op = 3 then IntKind.i64.wrap (n + 1) else n
def codeF (code : Int) (n : Int) (d : Deed) : Int := if d.op = 1 ∧ d.lin ≠ -1 ∧ d.code = code then IntKind.i64.wrap (n + 1) else n


theorem c33 (o : Bool) (l : List Deed) (hl : l.length ≤ 1048576) : FnOk prog 33 [.one (.s false 20 (l.map (Deed.cells o o)))] ⟨.one (.v (.int .i64 (l.foldl dropF 0))), [], [], false⟩ := by
  refine FnOk.intro (E := env) envOk wide func33 rfl (by kernel_rfl) rfl rfl ?_
  simp only [f33, go_sem, Nat.reduceBEq, Nat.reduceAdd, Nat.reduceLT, Nat.reduceLeDiff, List.length_map]
  refine ⟨FoldSt dropF l 0, fun x => ⟨[(0, .one (.s false 20 (l.map (Deed.cells o o)))), (3, .one (.v (.int .i64 x.n))), (4, .one (.v (.int .i64 x.i)))], [], []⟩, fun x => l.length - x.i, ⟨⟨0, Nat.zero_le _, _, rfl⟩, ?_⟩, fun x => ?_⟩
  · simp [-List.map_take, cuts, agrees, tmBelow, obBelow, AV.under, AV.under1, T.under, T.under0, Go.Ev.look]
  · by_cases hi : x.i < l.length
    · have hi' : ((x.i : Int) < (l.length : Int)) = True := by simp [hi]
      have h0 : (0 ≤ (x.i : Int)) = True := by simp
      have hw : IntKind.i64.wrap ((x.i : Int) + 1) = ((x.i + 1 : Nat) : Int) := by rw [wrap_small] <;> omega
      simp only [go_sem, Nat.reduceBEq, Nat.reduceAdd, Nat.reduceLT, Nat.reduceLeDiff, List.length_map, hi', h0, decide_true, Int.toNat_natCast, getD_map _ _ _ hi, Deed.cells, decide_true, beq_true, imp_self]
      refine ⟨fun h => ⟨x.step hi, ?_, ?_⟩, fun h => ⟨x.step hi, ?_, ?_⟩⟩
      · show l.length - (x.i + 1) < l.length - x.i
        omega
      · simp [-List.map_take, cuts, agrees, tmBelow, obBelow, AV.under, AV.under1, T.under, T.under0, Go.Ev.look, hw, FoldSt.step, dropF]
        simp at h
        first | (simp [h]; done) | (simp_all; done) | grind
      · show l.length - (x.i + 1) < l.length - x.i
        omega
      · simp [-List.map_take, cuts, agrees, tmBelow, obBelow, AV.under, AV.under1, T.under, T.under0, Go.Ev.look, hw, FoldSt.step, dropF]
        simp at h
        first | (simp [h]; done) | (simp_all; done) | grind
    · have hi' : ((x.i : Int) < (l.length : Int)) = False := by simp; omega
      simp only [go_sem, Nat.reduceBEq, Nat.reduceAdd, Nat.reduceLT, Nat.reduceLeDiff, List.length_map, hi', decide_false]
      rw [x.done hi]


theorem c34 (o : Bool) (l : List Deed) (hl : l.length ≤ 1048576) : FnOk prog 34 [.one (.s false 20 (l.map (Deed.cells o o)))] ⟨.one (.v (.int .i64 (l.foldl dropF 0))), [], [], false⟩ := by
  refine FnOk.intro (E := env) envOk wide func34 rfl (by kernel_rfl) rfl rfl ?_
  simp only [f34, go_sem, Nat.reduceBEq, Nat.reduceAdd, Nat.reduceLT, Nat.reduceLeDiff, List.length_map]
  refine ⟨FoldSt dropF l 0, fun x => ⟨[(0, .one (.s false 20 (l.map (Deed.cells o o)))), (6, .one (.s false 20 (l.map (Deed.cells o o)))), (7, .one (.v (.int .i64 l.length))), (3, .one (.v (.int .i64 x.n))), (8, .one (.v (.int .i64 x.i)))], [], []⟩, fun x => l.length - x.i, ⟨⟨0, Nat.zero_le _, _, rfl⟩, ?_⟩, fun x => ?_⟩
  · simp [-List.map_take, cuts, agrees, tmBelow, obBelow, AV.under, AV.under1, T.under, T.under0, Go.Ev.look]
  · by_cases hi : x.i < l.length
    · have hi' : ((x.i : Int) < (l.length : Int)) = True := by simp [hi]
      have h0 : (0 ≤ (x.i : Int)) = True := by simp
      have hw : IntKind.i64.wrap ((x.i : Int) + 1) = ((x.i + 1 : Nat) : Int) := by rw [wrap_small] <;> omega
      simp only [go_sem, Nat.reduceBEq, Nat.reduceAdd, Nat.reduceLT, Nat.reduceLeDiff, List.length_map, hi', h0, decide_true, Int.toNat_natCast, getD_map _ _ _ hi, Deed.cells, decide_true, beq_true, imp_self]
      refine ⟨fun h => ⟨x.step hi, ?_, ?_⟩, fun h => ⟨x.step hi, ?_, ?_⟩⟩
      · show l.length - (x.i + 1) < l.length - x.i
        omega
      · simp [-List.map_take, cuts, agrees, tmBelow, obBelow, AV.under, AV.under1, T.under, T.under0, Go.Ev.look, hw, FoldSt.step, dropF]
        simp at h
        first | (simp [h]; done) | (simp_all; done) | grind
      · show l.length - (x.i + 1) < l.length - x.i
        omega
      · simp [-List.map_take, cuts, agrees, tmBelow, obBelow, AV.under, AV.under1, T.under, T.under0, Go.Ev.look, hw, FoldSt.step, dropF]
        simp at h
        first | (simp [h]; done) | (simp_all; done) | grind
    · have hi' : ((x.i : Int) < (l.length : Int)) = False := by simp; omega
      simp only [go_sem, Nat.reduceBEq, Nat.reduceAdd, Nat.reduceLT, Nat.reduceLeDiff, List.length_map, hi', decide_false]
      rw [x.done hi]


theorem c29 (o : Bool) (l : List Deed) (code : Int) (hl : l.length ≤ 1048576) : FnOk prog 29 [.one (.s false 20 (l.map (Deed.cells o o))), .one (.v (.int .i64 code))] ⟨.one (.v (.int .i64 (l.foldl (codeF code) 0))), [], [], false⟩ := by
  refine FnOk.intro (E := env) envOk wide func29 rfl (by kernel_rfl) rfl rfl ?_
  simp only [f29, go_sem, Nat.reduceBEq, Nat.reduceAdd, Nat.reduceLT, Nat.reduceLeDiff, List.length_map]
  refine ⟨FoldSt (codeF code) l 0, fun x => ⟨[(0, .one (.s false 20 (l.map (Deed.cells o o)))), (1, .one (.v (.int .i64 code))), (5, .one (.v (.int .i64 x.n))), (6, .one (.v (.int .i64 x.i)))], [], []⟩, fun x => l.length - x.i, ⟨⟨0, Nat.zero_le _, _, rfl⟩, ?_⟩, fun x => ?_⟩
  · simp [-List.map_take, cuts, agrees, tmBelow, obBelow, AV.under, AV.under1, T.under, T.under0, Go.Ev.look]
  · by_cases hi : x.i < l.length
    · have hi' : ((x.i : Int) < (l.length : Int)) = True := by simp [hi]
      have h0 : (0 ≤ (x.i : Int)) = True := by simp
      have hw : IntKind.i64.wrap ((x.i : Int) + 1) = ((x.i + 1 : Nat) : Int) := by rw [wrap_small] <;> omega
      simp only [go_sem, Nat.reduceBEq, Nat.reduceAdd, Nat.reduceLT, Nat.reduceLeDiff, List.length_map, hi', h0, decide_true, Int.toNat_natCast, getD_map _ _ _ hi, Deed.cells, decide_true, beq_true, imp_self]
      refine ⟨fun h => ⟨x.step hi, ?_, ?_⟩, fun h => ⟨x.step hi, ?_, ?_⟩⟩
      · show l.length - (x.i + 1) < l.length - x.i
        omega
      · simp [-List.map_take, cuts, agrees, tmBelow, obBelow, AV.under, AV.under1, T.under, T.under0, Go.Ev.look, hw, FoldSt.step, codeF]
        simp at h
        first | (simp [h]; done) | (simp_all; done) | grind
      · show l.length - (x.i + 1) < l.length - x.i
        omega
      · simp [-List.map_take, cuts, agrees, tmBelow, obBelow, AV.under, AV.under1, T.under, T.under0, Go.Ev.look, hw, FoldSt.step, codeF]
        simp at h
        first | (simp [h]; done) | (simp_all; done) | grind
    · have hi' : ((x.i : Int) < (l.length : Int)) = False := by simp; omega
      simp only [go_sem, Nat.reduceBEq, Nat.reduceAdd, Nat.reduceLT, Nat.reduceLeDiff, List.length_map, hi', decide_false]
      rw [x.done hi]


theorem c31 (o : Bool) (l : List Deed) (code : Int) (hl : l.length ≤ 1048576) : FnOk prog 31 [.one (.s false 20 (l.map (Deed.cells o o))), .one (.v (.int .i64 code))] ⟨.one (.v (.int .i64 (l.foldl (codeF code) 0))), [], [], false⟩ := by
  refine FnOk.intro (E := env) envOk wide func31 rfl (by kernel_rfl) rfl rfl ?_
  simp only [f31, go_sem, Nat.reduceBEq, Nat.reduceAdd, Nat.reduceLT, Nat.reduceLeDiff, List.length_map]
  refine ⟨FoldSt (codeF code) l 0, fun x => ⟨[(0, .one (.s false 20 (l.map (Deed.cells o o)))), (1, .one (.v (.int .i64 code))), (8, .one (.s false 20 (l.map (Deed.cells o o)))), (9, .one (.v (.int .i64 l.length))), (5, .one (.v (.int .i64 x.n))), (10, .one (.v (.int .i64 x.i)))], [], []⟩, fun x => l.length - x.i, ⟨⟨0, Nat.zero_le _, _, rfl⟩, ?_⟩, fun x => ?_⟩
  · simp [-List.map_take, cuts, agrees, tmBelow, obBelow, AV.under, AV.under1, T.under, T.under0, Go.Ev.look]
  · by_cases hi : x.i < l.length
    · have hi' : ((x.i : Int) < (l.length : Int)) = True := by simp [hi]
      have h0 : (0 ≤ (x.i : Int)) = True := by simp
      have hw : IntKind.i64.wrap ((x.i : Int) + 1) = ((x.i + 1 : Nat) : Int) := by rw [wrap_small] <;> omega
      simp only [go_sem, Nat.reduceBEq, Nat.reduceAdd, Nat.reduceLT, Nat.reduceLeDiff, List.length_map, hi', h0, decide_true, Int.toNat_natCast, getD_map _ _ _ hi, Deed.cells, decide_true, beq_true, imp_self]
      refine ⟨fun h => ⟨x.step hi, ?_, ?_⟩, fun h => ⟨x.step hi, ?_, ?_⟩⟩
      · show l.length - (x.i + 1) < l.length - x.i
        omega
      · simp [-List.map_take, cuts, agrees, tmBelow, obBelow, AV.under, AV.under1, T.under, T.under0, Go.Ev.look, hw, FoldSt.step, codeF]
        simp at h
        first | (simp [h]; done) | (simp_all; done) | grind
      · show l.length - (x.i + 1) < l.length - x.i
        omega
      · simp [-List.map_take, cuts, agrees, tmBelow, obBelow, AV.under, AV.under1, T.under, T.under0, Go.Ev.look, hw, FoldSt.step, codeF]
        simp at h
        first | (simp [h]; done) | (simp_all; done) | grind
    · have hi' : ((x.i : Int) < (l.length : Int)) = False := by simp; omega
      simp only [go_sem, Nat.reduceBEq, Nat.reduceAdd, Nat.reduceLT, Nat.reduceLeDiff, List.length_map, hi', decide_false]
      rw [x.done hi]

end Go.Proofs.Try.Ev
