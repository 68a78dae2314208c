/- Verdicts. -/
import Derived.Test.YtbfbnamkgcanbaaLTabs
namespace Go.Proofs.Try.Ev
open Go Go.Ev
set_option maxHeartbeats 4000000
set_option maxRecDepth 100000
set_option linter.unusedSimpArgs false
structure Verdict where
  trace : Int
  stamp : Int
  keep : Bool
deriving DecidableEq
def Verdict.cells (x : Verdict) : List T := [.v (.int .i64 x.trace), .v (.int .i64 x.stamp), .v (.bool x.keep)]
def verdictS (l : List Verdict) : T := .s false 3 (l.map Verdict.cells)
theorem Verdict.eqB (x y : Verdict) : (x.trace == y.trace && (x.stamp == y.stamp && x.keep == y.keep)) = decide (x = y) := by
  cases x; cases y
  simp only [Verdict.mk.injEq]
  rw [Bool.eq_iff_iff]
  simp

structure EqSt {α : Type} (a b : List α) where
  i : Nat
  h : i ≤ a.length
  e : ∀ (j : Nat), j < i → a[j]? = b[j]?

theorem EqSt.ne {α : Type} {a b : List α} (x : EqSt a b) (h : x.i < a.length) (h' : x.i < b.length) (hn : a[x.i] ≠ b[x.i]) : a ≠ b := by
  rintro rfl
  exact hn rfl
theorem EqSt.all {α : Type} {a b : List α} (x : EqSt a b) (h : ¬ x.i < a.length) (hl : a.length = b.length) : a = b := by
  apply List.ext_getElem? 
  intro j
  by_cases hj : j < x.i
  · exact x.e j hj
  · rw [List.getElem?_eq_none (by omega), List.getElem?_eq_none (by have := x.h; omega)]
def EqSt.step {α : Type} {a b : List α} (x : EqSt a b) (h : x.i < a.length) (h' : x.i < b.length) (he : a[x.i] = b[x.i]) : EqSt a b :=
  ⟨x.i + 1, h, fun j hj => by
    by_cases hji : j = x.i
    · subst hji; simp [h, h', he]
    · exact x.e j (by omega)⟩

theorem c17 (a b : List Verdict) (ha : a.length ≤ 1048576) : FnOk prog 17 [.one (verdictS a), .one (verdictS b)] ⟨.one (.v (.bool (decide (a = b)))), [], [], false⟩ := by
  refine FnOk.intro (E := env) envOk wide func17 rfl (by kernel_rfl) rfl rfl ?_
  simp only [f17, verdictS, go_sem, Nat.reduceBEq, Nat.reduceAdd, Nat.reduceLT, Nat.reduceLeDiff, tab3, tab4, tab31, tab61, List.length_map]
  refine ⟨fun h => ?_, fun h => ?_⟩
  · have : a ≠ b := by
      rintro rfl
      simp at h
    simp [this]
  · have hl : a.length = b.length := by
      have : ((a.length : Int) = b.length) := by simpa using h
      omega
    refine ⟨EqSt a b, fun x => ⟨[(0, .one (.s false 3 (a.map Verdict.cells))), (1, .one (.s false 3 (b.map Verdict.cells))), (5, .one (.v (.int .i64 x.i)))], [], []⟩, fun x => a.length - x.i, ⟨⟨0, Nat.zero_le _, fun j h => by omega⟩, ?_⟩, fun x => ?_⟩
    · simp [cuts, agrees, tmBelow, obBelow, AV.under, AV.under1, T.under, T.under0, Go.Ev.look]
    · by_cases hi : x.i < a.length
      · have hb : x.i < b.length := by omega
        have hi' : ((x.i : Int) < (a.length : Int)) = True := by simp [hi]
        have hb' : ((x.i : Int) < (b.length : Int)) = True := by simp [hb]
        have h0 : (0 ≤ (x.i : Int)) = True := by simp
        simp only [go_sem, Nat.reduceBEq, Nat.reduceAdd, Nat.reduceLT, Nat.reduceLeDiff, tab3, tab4, tab31, tab61, eqt61, List.length_map, hi', hb', h0, decide_true, Int.toNat_natCast, getD_map _ _ _ hi, getD_map _ _ _ hb, Verdict.cells, beq_self_eq_true, Verdict.eqB]
        refine ⟨fun hne => ?_, fun heq => ?_⟩
        · have hne : a[x.i] ≠ b[x.i] := by simpa using hne
          simp [x.ne hi hb hne]
        · have heq : a[x.i] = b[x.i] := by simpa using heq
          refine ⟨x.step hi hb heq, ?_, ?_⟩
          · show a.length - (x.i + 1) < a.length - x.i
            omega
          · have hw : IntKind.i64.wrap ((x.i : Int) + 1) = ((x.i + 1 : Nat) : Int) := by rw [wrap_small] <;> omega
            simp [cuts, agrees, tmBelow, obBelow, AV.under, AV.under1, T.under, T.under0, Go.Ev.look, hw, EqSt.step, Verdict.cells]
      · have hi' : ((x.i : Int) < (a.length : Int)) = False := by simp; omega
        simp only [go_sem, Nat.reduceBEq, Nat.reduceAdd, Nat.reduceLT, Nat.reduceLeDiff, tab3, tab4, tab31, tab61, List.length_map, hi', decide_false]
        simp [x.all hi hl]

theorem c44 (a b : List Verdict) (ha : a.length ≤ 1048576) : FnOk prog 44 [.one (verdictS a), .one (verdictS b)] ⟨.one (.v (.bool (decide (a = b)))), [], [], false⟩ := by
  refine FnOk.intro (E := env) envOk wide func44 rfl (by kernel_rfl) rfl rfl ?_
  simp only [f44, verdictS, go_sem, Nat.reduceBEq, Nat.reduceAdd, Nat.reduceLT, Nat.reduceLeDiff, tab3, tab4, tab31, tab61, List.length_map]
  refine ⟨fun h => ?_, fun h => ?_⟩
  · have : a ≠ b := by
      rintro rfl
      simp at h
    simp [this]
  · have hl : a.length = b.length := by
      have : ((a.length : Int) = b.length) := by simpa using h
      omega
    refine ⟨EqSt a b, fun x => ⟨[(0, .one (.s false 3 (a.map Verdict.cells))), (1, .one (.s false 3 (b.map Verdict.cells))), (12, .one (.v (.int .i64 a.length))), (13, .one (.v (.int .i64 x.i)))], [], []⟩, fun x => a.length - x.i, ⟨⟨0, Nat.zero_le _, fun j h => by omega⟩, ?_⟩, fun x => ?_⟩
    · simp [cuts, agrees, tmBelow, obBelow, AV.under, AV.under1, T.under, T.under0, Go.Ev.look]
    · by_cases hi : x.i < a.length
      · have hb : x.i < b.length := by omega
        have hi' : ((x.i : Int) < (a.length : Int)) = True := by simp [hi]
        have hb' : ((x.i : Int) < (b.length : Int)) = True := by simp [hb]
        have h0 : (0 ≤ (x.i : Int)) = True := by simp
        simp only [go_sem, Nat.reduceBEq, Nat.reduceAdd, Nat.reduceLT, Nat.reduceLeDiff, tab3, tab4, tab31, tab61, eqt61, List.length_map, hi', hb', h0, decide_true, Int.toNat_natCast, getD_map _ _ _ hi, getD_map _ _ _ hb, Verdict.cells, beq_self_eq_true, Verdict.eqB]
        refine ⟨fun hne => ?_, fun heq => ?_⟩
        · have hne : a[x.i] ≠ b[x.i] := by simpa using hne
          simp [x.ne hi hb hne]
        · have heq : a[x.i] = b[x.i] := by simpa using heq
          refine ⟨x.step hi hb heq, ?_, ?_⟩
          · show a.length - (x.i + 1) < a.length - x.i
            omega
          · have hw : IntKind.i64.wrap ((x.i : Int) + 1) = ((x.i + 1 : Nat) : Int) := by rw [wrap_small] <;> omega
            simp [cuts, agrees, tmBelow, obBelow, AV.under, AV.under1, T.under, T.under0, Go.Ev.look, hw, EqSt.step, Verdict.cells]
      · have hi' : ((x.i : Int) < (a.length : Int)) = False := by simp; omega
        simp only [go_sem, Nat.reduceBEq, Nat.reduceAdd, Nat.reduceLT, Nat.reduceLeDiff, tab3, tab4, tab31, tab61, List.length_map, hi', decide_false]
        simp [x.all hi hl]

theorem c19 (a b : List Verdict) (ha : a.length ≤ 1048576) : FnOk prog 19 [.one (verdictS a), .one (verdictS b)] ⟨.one (.v (.bool (decide (a = b)))), [], [], false⟩ := by
  refine FnOk.intro (E := env) envOk wide func19 rfl (by kernel_rfl) rfl rfl ?_
  simp only [f19, verdictS, go_sem, Nat.reduceBEq, Nat.reduceAdd, Nat.reduceLT, Nat.reduceLeDiff]
  refine ⟨_, c44 a b ha, ?_⟩
  simp only [go_sem, Nat.reduceBEq, Nat.reduceAdd, Nat.reduceLT, Nat.reduceLeDiff, tab3, tab4, tab31, tab61]

theorem c45 (x y : Verdict) : FnOk prog 45 [.agg x.cells, .agg y.cells] ⟨.one (.v (.bool (decide (x = y)))), [], [], false⟩ := by
  refine FnOk.intro (E := env) envOk wide func45 rfl (by kernel_rfl) rfl rfl ?_
  simp only [f45, Verdict.cells, go_sem, Nat.reduceBEq, Nat.reduceAdd, Nat.reduceLT, Nat.reduceLeDiff, tab3, tab4, tab31, tab61]
  cases x; cases y
  simp only [Verdict.mk.injEq]
  repeat' first | refine ⟨?_, ?_⟩ | intro _
  all_goals simp_all

theorem c43 (x : Verdict) : FnOk prog 43 [.agg x.cells] ⟨.agg x.cells, [], [], false⟩ := by
  refine FnOk.intro (E := env) envOk wide func43 rfl (by kernel_rfl) rfl rfl ?_
  simp only [f43, Verdict.cells, go_sem, Nat.reduceBEq, Nat.reduceAdd, Nat.reduceLT, Nat.reduceLeDiff, tab3, tab4, tab31, tab61, tab63]

theorem c16 (a : List Verdict) (left : Int) : FnOk prog 16 [.one (verdictS a), .one (.v (.int .i64 left))] ⟨.one (.v (.int .i64 (if IntKind.i64.wrap (left - a.length) < 0 then -1 else IntKind.i64.wrap (left - a.length)))), [], [], false⟩ := by
  refine FnOk.intro (E := env) envOk wide func16 rfl (by kernel_rfl) rfl rfl ?_
  simp only [f16, verdictS, go_sem, Nat.reduceBEq, Nat.reduceAdd, Nat.reduceLT, Nat.reduceLeDiff, tab3, tab4, tab28, tab31, tab61, List.length_map]
  refine ⟨fun h => ?_, fun h => ?_⟩
  · have h : IntKind.i64.wrap (left - a.length) < 0 := by simpa using h
    simp [h]
  · have h : ¬ IntKind.i64.wrap (left - a.length) < 0 := by simpa using h
    simp [h]

theorem c20 (a b : List Verdict) (ha : a.length ≤ 1048576) : FnOk prog 20 [.one (verdictS a), .one (verdictS b)] ⟨.one (.v (.bool (decide (a = b)))), [], [], false⟩ := by
  refine FnOk.intro (E := env) envOk wide func20 rfl (by kernel_rfl) rfl rfl ?_
  simp only [f20, verdictS, go_sem, Nat.reduceBEq, Nat.reduceAdd, Nat.reduceLT, Nat.reduceLeDiff, tab3, tab4, tab31, tab61, List.length_map]
  refine ⟨fun h => ?_, fun h => ?_⟩
  · have : a ≠ b := by
      rintro rfl
      simp at h
    simp [this]
  · have hl : a.length = b.length := by
      have : ((a.length : Int) = b.length) := by simpa using h
      omega
    refine ⟨EqSt a b, fun x => ⟨[(0, .one (.s false 3 (a.map Verdict.cells))), (1, .one (.s false 3 (b.map Verdict.cells))), (5, .one (.v (.int .i64 x.i)))], [], []⟩, fun x => a.length - x.i, ⟨⟨0, Nat.zero_le _, fun j h => by omega⟩, ?_⟩, fun x => ?_⟩
    · simp [cuts, agrees, tmBelow, obBelow, AV.under, AV.under1, T.under, T.under0, Go.Ev.look]
    · by_cases hi : x.i < a.length
      · have hb : x.i < b.length := by omega
        have hi' : ((x.i : Int) < (a.length : Int)) = True := by simp [hi]
        have hb' : ((x.i : Int) < (b.length : Int)) = True := by simp [hb]
        have h0 : (0 ≤ (x.i : Int)) = True := by simp
        simp only [go_sem, Nat.reduceBEq, Nat.reduceAdd, Nat.reduceLT, Nat.reduceLeDiff, tab3, tab4, tab31, tab61, eqt61, List.length_map, hi', hb', h0, decide_true, Int.toNat_natCast, getD_map _ _ _ hi, getD_map _ _ _ hb, Verdict.cells]
        refine ⟨_, c45 _ _, ?_⟩
        simp only [gK, go_sem, Nat.reduceBEq, Nat.reduceAdd, Nat.reduceLT, Nat.reduceLeDiff, tab3, tab4, tab31, tab61]
        refine ⟨fun hne => ?_, fun heq => ?_⟩
        · have hne : a[x.i] ≠ b[x.i] := by simpa using hne
          simp [x.ne hi hb hne]
        · have heq : a[x.i] = b[x.i] := by simpa using heq
          refine ⟨x.step hi hb heq, ?_, ?_⟩
          · show a.length - (x.i + 1) < a.length - x.i
            omega
          · have hw : IntKind.i64.wrap ((x.i : Int) + 1) = ((x.i + 1 : Nat) : Int) := by rw [wrap_small] <;> omega
            simp [cuts, agrees, tmBelow, obBelow, AV.under, AV.under1, T.under, T.under0, Go.Ev.look, hw, EqSt.step, Verdict.cells]
      · have hi' : ((x.i : Int) < (a.length : Int)) = False := by simp; omega
        simp only [go_sem, Nat.reduceBEq, Nat.reduceAdd, Nat.reduceLT, Nat.reduceLeDiff, tab3, tab4, tab31, tab61, List.length_map, hi', decide_false]
        simp [x.all hi hl]

def verdictO (l : List Verdict) : T := .s true 3 (l.map Verdict.cells)
structure UpTo (n : Nat) where
  i : Nat
  h : i ≤ n

theorem c18 (a : List Verdict) (ha : a.length ≤ 1048576) : FnOk prog 18 [.one (verdictS a)] ⟨.one (verdictO a), [], [], false⟩ := by
  refine FnOk.intro (E := env) envOk wide func18 rfl (by kernel_rfl) rfl rfl ?_
  simp only [f18, verdictS, verdictO, go_sem, Nat.reduceBEq, Nat.reduceAdd, Nat.reduceLT, Nat.reduceLeDiff, tab3, tab4, tab28, tab31, tab61, tab63, List.length_map]
  refine ⟨by omega, ?_⟩
  refine ⟨UpTo a.length, fun x => ⟨[(0, .one (.s false 3 (a.map Verdict.cells))), (3, .one (.n 0 [] 0 0 a.length)), (4, .one (.v (.int .i64 x.i)))], [some ⟨3, false, (a.take x.i).map Verdict.cells ++ List.replicate (a.length - x.i) [.v (.int .i64 0), .v (.int .i64 0), .v (.bool false)], 0⟩], []⟩, fun x => a.length - x.i, ⟨⟨0, Nat.zero_le _⟩, ?_⟩, fun x => ?_⟩
  · simp [cuts, agrees, tmBelow, obBelow, AV.under, AV.under1, T.under, T.under0, Go.Ev.look]
  · by_cases hi : x.i < a.length
    · have hi' : ((x.i : Int) < (a.length : Int)) = True := by simp [hi]
      have h0 : (0 ≤ (x.i : Int)) = True := by simp
      simp only [go_sem, Nat.reduceBEq, Nat.reduceAdd, Nat.reduceLT, Nat.reduceLeDiff, tab3, tab4, tab28, tab31, tab61, tab63, List.length_map, hi', h0, decide_true, Int.toNat_natCast, getD_map _ _ _ hi, Verdict.cells]
      refine ⟨_, c43 _, ?_⟩
      simp only [go_sem, Nat.reduceBEq, Nat.reduceAdd, Nat.reduceLT, Nat.reduceLeDiff, tab3, tab4, tab28, tab31, tab61, tab63, List.length_map, hi', h0, Int.toNat_natCast, Verdict.cells]
      refine ⟨by simp; omega, ⟨x.i + 1, hi⟩, ?_, ?_⟩
      · show a.length - (x.i + 1) < a.length - x.i
        omega
      · have hw : IntKind.i64.wrap ((x.i : Int) + 1) = ((x.i + 1 : Nat) : Int) := by rw [wrap_small] <;> omega
        have hs := set_fill Verdict.cells a [.v (.int .i64 0), .v (.int .i64 0), .v (.bool false)] x.i hi rfl
        simp only [Verdict.cells] at hs
        simp [-List.map_take, cuts, agrees, tmBelow, obBelow, AV.under, AV.under1, T.under, T.under0, Go.Ev.look, hw, hs]
    · have hi' : ((x.i : Int) < (a.length : Int)) = False := by simp; omega
      have hx : x.i = a.length := by have := x.h; omega
      simp only [go_sem, Nat.reduceBEq, Nat.reduceAdd, Nat.reduceLT, Nat.reduceLeDiff, tab3, tab4, tab28, tab31, tab61, List.length_map, hi', decide_false]
      have ho := ownT_map Verdict.cells (fun x t ht => by
        simp only [Verdict.cells, List.mem_cons, List.not_mem_nil, or_false] at ht
        rcases ht with rfl | rfl | rfl <;> exact .v _) 3 a
      simp [hx, take_map, ho]

theorem c4 (a b : List Verdict) (ha : a.length ≤ 9223372036854775807) (hb : b.length ≤ 9223372036854775807) : FnOk prog 4 [.one (verdictS a), .one (verdictS b)] ⟨.one (.v (.bool true)), [], [], false⟩ := by
  refine FnOk.intro (E := env) envOk wide func4 rfl (by kernel_rfl) rfl rfl ?_
  simp only [f4, verdictS, go_sem, Nat.reduceBEq, Nat.reduceAdd, Nat.reduceLT, Nat.reduceLeDiff, tab3, tab4, tab28, tab31, tab61, List.length_map]
  refine ⟨_, c16 a _, ?_⟩
  have wa : IntKind.i64.wrap (1048576 - (a.length : Int)) = 1048576 - a.length := by rw [wrap_small] <;> omega
  simp only [go_sem, Nat.reduceBEq, Nat.reduceAdd, Nat.reduceLT, Nat.reduceLeDiff, tab3, tab4, tab28, tab31, tab61, wa]
  intro h
  have ha' : a.length ≤ 1048576 := by
    have h : ¬ (if (1048576 - (a.length : Int)) < 0 then (-1 : Int) else 1048576 - a.length) < 0 := by simpa using h
    by_cases hc : (1048576 - (a.length : Int)) < 0
    · rw [if_pos hc] at h; omega
    · omega
  rw [if_neg (by omega)]
  refine ⟨_, c16 b _, ?_⟩
  have wb : IntKind.i64.wrap (1048576 - (a.length : Int) - b.length) = 1048576 - a.length - b.length := by rw [wrap_small] <;> omega
  simp only [go_sem, Nat.reduceBEq, Nat.reduceAdd, Nat.reduceLT, Nat.reduceLeDiff, tab3, tab4, tab28, tab31, tab61, wb]
  intro h
  have hb' : b.length ≤ 1048576 := by
    have h : ¬ (if (1048576 - (a.length : Int) - b.length) < 0 then (-1 : Int) else 1048576 - a.length - b.length) < 0 := by simpa using h
    by_cases hc : (1048576 - (a.length : Int) - b.length) < 0
    · rw [if_pos hc] at h; omega
    · omega
  refine ⟨_, c18 a ha', ?_⟩
  simp only [verdictO, go_sem, Nat.reduceBEq, Nat.reduceAdd, Nat.reduceLT, Nat.reduceLeDiff, List.length_map]
  refine ⟨_, c18 b hb', ?_⟩
  simp only [verdictO, go_sem, Nat.reduceBEq, Nat.reduceAdd, Nat.reduceLT, Nat.reduceLeDiff, List.length_map, take_map]
  refine ⟨_, c17 a b ha', ?_⟩
  simp only [verdictO, go_sem, Nat.reduceBEq, Nat.reduceAdd, Nat.reduceLT, Nat.reduceLeDiff, List.length_map, take_map]
  refine ⟨_, c18 a ha', ?_⟩
  simp only [verdictO, go_sem, Nat.reduceBEq, Nat.reduceAdd, Nat.reduceLT, Nat.reduceLeDiff, List.length_map, take_map]
  refine ⟨_, c18 b hb', ?_⟩
  simp only [verdictO, go_sem, Nat.reduceBEq, Nat.reduceAdd, Nat.reduceLT, Nat.reduceLeDiff, List.length_map, take_map]
  refine ⟨_, c19 a b ha', ?_⟩
  simp only [go_sem, Nat.reduceBEq, Nat.reduceAdd, Nat.reduceLT, Nat.reduceLeDiff, tab3, tab4, List.length_map, take_map]
  refine ⟨fun h => (by simp at h), fun _ => ?_⟩
  refine ⟨_, c18 a ha', ?_⟩
  simp only [verdictO, go_sem, Nat.reduceBEq, Nat.reduceAdd, Nat.reduceLT, Nat.reduceLeDiff, List.length_map, take_map]
  refine ⟨_, c20 a a ha', ?_⟩
  simp only [verdictO, go_sem, Nat.reduceBEq, Nat.reduceAdd, Nat.reduceLT, Nat.reduceLeDiff, List.length_map, take_map, decide_true, Bool.not_true]
  refine ⟨_, c18 b hb', ?_⟩
  simp only [verdictO, go_sem, Nat.reduceBEq, Nat.reduceAdd, Nat.reduceLT, Nat.reduceLeDiff, List.length_map, take_map]
  refine ⟨_, c20 b b hb', ?_⟩
  simp only [verdictO, go_sem, Nat.reduceBEq, Nat.reduceAdd, Nat.reduceLT, Nat.reduceLeDiff, List.length_map, take_map, decide_true, Bool.not_true]
end Go.Proofs.Try.Ev
