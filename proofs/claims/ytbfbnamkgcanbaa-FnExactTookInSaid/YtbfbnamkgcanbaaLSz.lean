/- Sizes. -/
import Derived.Test.YtbfbnamkgcanbaaLAttr
namespace Go.Proofs.Try.Ev
open Go Go.Ev
set_option maxHeartbeats 4000000
set_option maxRecDepth 100000
set_option linter.unusedSimpArgs false
set_option linter.unusedVariables false
def wfS {α : Type} (P : α → Prop) (l : List α) : Prop := l.length ≤ 9223372036854775807 ∧ ∀ x ∈ l, P x
def Attr.wf (x : Attr) : Prop := x.key.size ≤ 9223372036854775807 ∧ x.text.size ≤ 9223372036854775807
def Span.wf (x : Span) : Prop := wfS Attr.wf x.attrs
def Deed.wf (x : Deed) : Prop := x.s.wf
def szAttr (x : Attr) (left : Int) : Int :=
  if IntKind.i64.wrap (left - x.key.size) < 0 then -1 else if IntKind.i64.wrap (IntKind.i64.wrap (left - x.key.size) - x.text.size) < 0 then -1 else IntKind.i64.wrap (IntKind.i64.wrap (left - x.key.size) - x.text.size)
def szL {α : Type} (f : α → Int → Int) : List α → Int → Int
  | [], left => left
  | x :: l, left => if f x left < 0 then -1 else szL f l (f x left)
def szS {α : Type} (f : α → Int → Int) (l : List α) (left : Int) : Int :=
  if IntKind.i64.wrap (left - l.length) < 0 then -1 else szL f l (IntKind.i64.wrap (left - l.length))
def szSpan (x : Span) (left : Int) : Int := if szS szAttr x.attrs left < 0 then -1 else szS szAttr x.attrs left
def szDeed (x : Deed) (left : Int) : Int := if szSpan x.s left < 0 then -1 else szSpan x.s left
structure SzSt {α : Type} (f : α → Int → Int) (l : List α) (left : Int) where
  i : Nat
  h : i ≤ l.length
  left' : Int
  e : szL f (l.drop i) left' = szL f l left
def SzSt.step {α : Type} {f : α → Int → Int} {l : List α} {left : Int} (x : SzSt f l left) (h : x.i < l.length) (hn : ¬ f l[x.i] x.left' < 0) : SzSt f l left :=
  ⟨x.i + 1, h, f l[x.i] x.left', by
    have := x.e
    rw [List.drop_eq_getElem_cons h, szL, if_neg hn] at this
    exact this⟩
theorem SzSt.neg {α : Type} {f : α → Int → Int} {l : List α} {left : Int} (x : SzSt f l left) (h : x.i < l.length) (hn : f l[x.i] x.left' < 0) : szL f l left = -1 := by
  have := x.e
  rw [List.drop_eq_getElem_cons h, szL, if_pos hn] at this
  exact this.symm
theorem SzSt.done {α : Type} {f : α → Int → Int} {l : List α} {left : Int} (x : SzSt f l left) (h : ¬ x.i < l.length) : szL f l left = x.left' := by
  have := x.e
  rw [List.drop_eq_nil_of_le (by omega), szL] at this
  exact this.symm

theorem c79 (o : Bool) (x : Attr) (left : Int) (hx : x.wf) : FnOk prog 79 [.agg (Attr.cells false o x), .one (.v (.int .i64 left))] ⟨.one (.v (.int .i64 (szAttr x left))), [], [], false⟩ := by
  refine FnOk.intro (E := env) envOk wide func79 rfl (by kernel_rfl) rfl rfl ?_
  simp only [f79, Attr.cells, go_sem, Nat.reduceBEq, Nat.reduceAdd, Nat.reduceLT, Nat.reduceLeDiff]
  unfold szAttr
  refine ⟨fun h => ?_, fun h => ⟨fun h' => ?_, fun h' => ?_⟩⟩
  · rw [if_pos (by simpa using h)]
  · rw [if_neg (by simpa using h), if_pos (by simpa using h')]
  · rw [if_neg (by simpa using h), if_neg (by simpa using h')]


theorem c73 (o : Bool) (l : List Attr) (left : Int) (hl : wfS Attr.wf l) : FnOk prog 73 [.one (.s false 4 (l.map (Attr.cells o o))), .one (.v (.int .i64 left))] ⟨.one (.v (.int .i64 (szS szAttr l left))), [], [], false⟩ := by
  refine FnOk.intro (E := env) envOk wide func73 rfl (by kernel_rfl) rfl rfl ?_
  simp only [f73, go_sem, Nat.reduceBEq, Nat.reduceAdd, Nat.reduceLT, Nat.reduceLeDiff, List.length_map]
  unfold szS
  have hl1 := hl.1
  refine ⟨fun h => ?_, fun h => ?_⟩
  · rw [if_pos (by simpa using h)]
  · rw [if_neg (by simpa using h)]
    refine ⟨SzSt szAttr l (IntKind.i64.wrap (left - l.length)), fun x => ⟨[(0, .one (.s false 4 (l.map (Attr.cells o o)))), (1, .one (.v (.int .i64 x.left'))), (5, .one (.v (.int .i64 x.i)))], [], []⟩, fun x => l.length - x.i, ⟨⟨0, Nat.zero_le _, _, rfl⟩, ?_⟩, fun x => ?_⟩
    · simp [-List.map_take, cuts, agrees, tmBelow, obBelow, AV.under, AV.under1, T.under, T.under0, Go.Ev.look]
    · by_cases hi : x.i < l.length
      · have hi' : ((x.i : Int) < (l.length : Int)) = True := by simp [hi]
        have h0 : (0 ≤ (x.i : Int)) = True := by simp
        simp only [go_sem, Nat.reduceBEq, Nat.reduceAdd, Nat.reduceLT, Nat.reduceLeDiff, List.length_map, hi', h0, decide_true, Int.toNat_natCast, getD_map _ _ _ hi, Attr.cells]
        refine ⟨_, c79 o l[x.i] x.left' (hl.2 _ (List.getElem_mem hi)), ?_⟩
        simp only [go_sem, Nat.reduceBEq, Nat.reduceAdd, Nat.reduceLT, Nat.reduceLeDiff]
        refine ⟨fun hn => ?_, fun hn => ?_⟩
        · rw [x.neg hi (by simpa using hn)]
        · have hn : ¬ szAttr l[x.i] x.left' < 0 := by simpa using hn
          refine ⟨x.step hi hn, ?_, ?_⟩
          · show l.length - (x.i + 1) < l.length - x.i
            omega
          · have hw : IntKind.i64.wrap ((x.i : Int) + 1) = ((x.i + 1 : Nat) : Int) := by rw [wrap_small] <;> omega
            simp [-List.map_take, cuts, agrees, tmBelow, obBelow, AV.under, AV.under1, T.under, T.under0, Go.Ev.look, hw, SzSt.step]
      · have hi' : ((x.i : Int) < (l.length : Int)) = False := by simp; omega
        simp only [go_sem, Nat.reduceBEq, Nat.reduceAdd, Nat.reduceLT, Nat.reduceLeDiff, List.length_map, hi', decide_false]
        rw [x.done hi]

theorem c55 (o : Bool) (x : Span) (left : Int) (hx : x.wf) : FnOk prog 55 [.agg (Span.cells false o x), .one (.v (.int .i64 left))] ⟨.one (.v (.int .i64 (szSpan x left))), [], [], false⟩ := by
  refine FnOk.intro (E := env) envOk wide func55 rfl (by kernel_rfl) rfl rfl ?_
  simp only [f55, Span.cells, go_sem, Nat.reduceBEq, Nat.reduceAdd, Nat.reduceLT, Nat.reduceLeDiff]
  refine ⟨_, c73 o x.attrs left hx, ?_⟩
  simp only [go_sem, Nat.reduceBEq, Nat.reduceAdd, Nat.reduceLT, Nat.reduceLeDiff]
  unfold szSpan
  refine ⟨fun h => ?_, fun h => ?_⟩
  · rw [if_pos (by simpa using h)]
  · rw [if_neg (by simpa using h)]

theorem c25 (o : Bool) (l : List Span) (left : Int) (hl : wfS Span.wf l) : FnOk prog 25 [.one (.s false 6 (l.map (Span.cells o o))), .one (.v (.int .i64 left))] ⟨.one (.v (.int .i64 (szS szSpan l left))), [], [], false⟩ := by
  refine FnOk.intro (E := env) envOk wide func25 rfl (by kernel_rfl) rfl rfl ?_
  simp only [f25, go_sem, Nat.reduceBEq, Nat.reduceAdd, Nat.reduceLT, Nat.reduceLeDiff, List.length_map]
  unfold szS
  have hl1 := hl.1
  refine ⟨fun h => ?_, fun h => ?_⟩
  · rw [if_pos (by simpa using h)]
  · rw [if_neg (by simpa using h)]
    refine ⟨SzSt szSpan l (IntKind.i64.wrap (left - l.length)), fun x => ⟨[(0, .one (.s false 6 (l.map (Span.cells o o)))), (1, .one (.v (.int .i64 x.left'))), (5, .one (.v (.int .i64 x.i)))], [], []⟩, fun x => l.length - x.i, ⟨⟨0, Nat.zero_le _, _, rfl⟩, ?_⟩, fun x => ?_⟩
    · simp [-List.map_take, cuts, agrees, tmBelow, obBelow, AV.under, AV.under1, T.under, T.under0, Go.Ev.look]
    · by_cases hi : x.i < l.length
      · have hi' : ((x.i : Int) < (l.length : Int)) = True := by simp [hi]
        have h0 : (0 ≤ (x.i : Int)) = True := by simp
        simp only [go_sem, Nat.reduceBEq, Nat.reduceAdd, Nat.reduceLT, Nat.reduceLeDiff, List.length_map, hi', h0, decide_true, Int.toNat_natCast, getD_map _ _ _ hi, Span.cells]
        refine ⟨_, c55 o l[x.i] x.left' (hl.2 _ (List.getElem_mem hi)), ?_⟩
        simp only [go_sem, Nat.reduceBEq, Nat.reduceAdd, Nat.reduceLT, Nat.reduceLeDiff]
        refine ⟨fun hn => ?_, fun hn => ?_⟩
        · rw [x.neg hi (by simpa using hn)]
        · have hn : ¬ szSpan l[x.i] x.left' < 0 := by simpa using hn
          refine ⟨x.step hi hn, ?_, ?_⟩
          · show l.length - (x.i + 1) < l.length - x.i
            omega
          · have hw : IntKind.i64.wrap ((x.i : Int) + 1) = ((x.i + 1 : Nat) : Int) := by rw [wrap_small] <;> omega
            simp [-List.map_take, cuts, agrees, tmBelow, obBelow, AV.under, AV.under1, T.under, T.under0, Go.Ev.look, hw, SzSt.step]
      · have hi' : ((x.i : Int) < (l.length : Int)) = False := by simp; omega
        simp only [go_sem, Nat.reduceBEq, Nat.reduceAdd, Nat.reduceLT, Nat.reduceLeDiff, List.length_map, hi', decide_false]
        rw [x.done hi]

theorem c58 (o : Bool) (x : Deed) (left : Int) (hx : x.wf) : FnOk prog 58 [.agg (Deed.cells false o x), .one (.v (.int .i64 left))] ⟨.one (.v (.int .i64 (szDeed x left))), [], [], false⟩ := by
  refine FnOk.intro (E := env) envOk wide func58 rfl (by kernel_rfl) rfl rfl ?_
  simp only [f58, Deed.cells, go_sem, Nat.reduceBEq, Nat.reduceAdd, Nat.reduceLT, Nat.reduceLeDiff]
  refine ⟨_, c55 o x.s left hx, ?_⟩
  simp only [go_sem, Nat.reduceBEq, Nat.reduceAdd, Nat.reduceLT, Nat.reduceLeDiff]
  unfold szDeed
  refine ⟨fun h => ?_, fun h => ?_⟩
  · rw [if_pos (by simpa using h)]
  · rw [if_neg (by simpa using h)]

theorem c28 (o : Bool) (l : List Deed) (left : Int) (hl : wfS Deed.wf l) : FnOk prog 28 [.one (.s false 20 (l.map (Deed.cells o o))), .one (.v (.int .i64 left))] ⟨.one (.v (.int .i64 (szS szDeed l left))), [], [], false⟩ := by
  refine FnOk.intro (E := env) envOk wide func28 rfl (by kernel_rfl) rfl rfl ?_
  simp only [f28, go_sem, Nat.reduceBEq, Nat.reduceAdd, Nat.reduceLT, Nat.reduceLeDiff, List.length_map]
  unfold szS
  have hl1 := hl.1
  refine ⟨fun h => ?_, fun h => ?_⟩
  · rw [if_pos (by simpa using h)]
  · rw [if_neg (by simpa using h)]
    refine ⟨SzSt szDeed l (IntKind.i64.wrap (left - l.length)), fun x => ⟨[(0, .one (.s false 20 (l.map (Deed.cells o o)))), (1, .one (.v (.int .i64 x.left'))), (5, .one (.v (.int .i64 x.i)))], [], []⟩, fun x => l.length - x.i, ⟨⟨0, Nat.zero_le _, _, rfl⟩, ?_⟩, fun x => ?_⟩
    · simp [-List.map_take, cuts, agrees, tmBelow, obBelow, AV.under, AV.under1, T.under, T.under0, Go.Ev.look]
    · by_cases hi : x.i < l.length
      · have hi' : ((x.i : Int) < (l.length : Int)) = True := by simp [hi]
        have h0 : (0 ≤ (x.i : Int)) = True := by simp
        simp only [go_sem, Nat.reduceBEq, Nat.reduceAdd, Nat.reduceLT, Nat.reduceLeDiff, List.length_map, hi', h0, decide_true, Int.toNat_natCast, getD_map _ _ _ hi, Deed.cells]
        refine ⟨_, c58 o l[x.i] x.left' (hl.2 _ (List.getElem_mem hi)), ?_⟩
        simp only [go_sem, Nat.reduceBEq, Nat.reduceAdd, Nat.reduceLT, Nat.reduceLeDiff]
        refine ⟨fun hn => ?_, fun hn => ?_⟩
        · rw [x.neg hi (by simpa using hn)]
        · have hn : ¬ szDeed l[x.i] x.left' < 0 := by simpa using hn
          refine ⟨x.step hi hn, ?_, ?_⟩
          · show l.length - (x.i + 1) < l.length - x.i
            omega
          · have hw : IntKind.i64.wrap ((x.i : Int) + 1) = ((x.i + 1 : Nat) : Int) := by rw [wrap_small] <;> omega
            simp [-List.map_take, cuts, agrees, tmBelow, obBelow, AV.under, AV.under1, T.under, T.under0, Go.Ev.look, hw, SzSt.step]
      · have hi' : ((x.i : Int) < (l.length : Int)) = False := by simp; omega
        simp only [go_sem, Nat.reduceBEq, Nat.reduceAdd, Nat.reduceLT, Nat.reduceLeDiff, List.length_map, hi', decide_false]
        rw [x.done hi]
end Go.Proofs.Try.Ev
