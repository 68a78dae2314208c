/- Attributes, spans, deeds: copies and comparisons. -/
import Derived.Test.YtbfbnamkgcanbaaLSame
namespace Go.Proofs.Try.Ev
open Go Go.Ev
set_option maxHeartbeats 4000000
set_option maxRecDepth 100000
set_option linter.unusedSimpArgs false
set_option linter.unusedVariables false
def smallS {α : Type} (P : α → Prop) (l : List α) : Prop := l.length ≤ 1048576 ∧ ∀ x ∈ l, P x
structure UpToE (n : Nat) where
  i : Nat
  h : i ≤ n
  ep : Nat
theorem bytes_eq (a b : ByteArray) : (a.toList == b.toList) = decide (a = b) := by
  rw [ByteArray.toList_eq, ByteArray.toList_eq, Bool.eq_iff_iff]
  obtain ⟨⟨x⟩⟩ := a
  obtain ⟨⟨y⟩⟩ := b
  simp

structure Attr where
  key : ByteArray
  num : Bool
  n : Int
  text : ByteArray
deriving DecidableEq
def Attr.cells (o i : Bool) (x : Attr) : List T := [.v (.string x.key), .v (.bool x.num), .v (.int .i64 x.n), .v (.string x.text)]
def Attr.small (x : Attr) : Prop := True
theorem Attr.own : ∀ x : Attr, ∀ t ∈ Attr.cells true true x, OwnT t := fun x t ht => by
  simp only [Attr.cells, List.mem_cons, List.not_mem_nil, or_false] at ht
  rcases ht with rfl | rfl | rfl | rfl <;> (first | exact .v _ )


theorem c81 (o p : Bool) (x y : Attr) (hx : x.small) : FnOk prog 81 [.agg (Attr.cells false o x), .agg (Attr.cells false p y)] ⟨.one (.v (.bool (decide (x = y)))), [], [], false⟩ := by
  refine FnOk.intro (E := env) envOk wide func81 rfl (by kernel_rfl) rfl rfl ?_
  simp only [f81, Attr.cells, go_sem, Nat.reduceBEq, Nat.reduceAdd, Nat.reduceLT, Nat.reduceLeDiff, bytes_eq]
  cases x; cases y
  simp only [Attr.mk.injEq]
  repeat' first | refine And.intro ?_ ?_ | intro _
  all_goals try (simp_all; done)


theorem c80 (o : Bool) (x : Attr) (hx : x.small) : FnOk prog 80 [.agg (Attr.cells false o x)] ⟨.agg (Attr.cells true true x), [], [], false⟩ := by
  refine FnOk.intro (E := env) envOk wide func80 rfl (by kernel_rfl) rfl rfl ?_
  simp only [f80, Attr.cells, go_sem, Nat.reduceBEq, Nat.reduceAdd, Nat.reduceLT, Nat.reduceLeDiff, tab3]


theorem c75 (o p : Bool) (a b : List Attr) (ha : smallS Attr.small a) : FnOk prog 75 [.one (.s false 4 (a.map (Attr.cells o o))), .one (.s false 4 (b.map (Attr.cells p p)))] ⟨.one (.v (.bool (decide (a = b)))), [], [], false⟩ := by
  refine FnOk.intro (E := env) envOk wide func75 rfl (by kernel_rfl) rfl rfl ?_
  simp only [f75, go_sem, Nat.reduceBEq, Nat.reduceAdd, Nat.reduceLT, Nat.reduceLeDiff, tab3, List.length_map]
  refine ⟨fun h => ?_, fun h => ?_⟩
  · have : a ≠ b := by
      rintro rfl
      simp at h
    simp [this]
  · have ha1 := ha.1
    have hl : a.length = b.length := by
      have : ((a.length : Int) = b.length) := by simpa using h
      omega
    refine ⟨EqSt a b, fun x => ⟨[(0, .one (.s false 4 (a.map (Attr.cells o o)))), (1, .one (.s false 4 (b.map (Attr.cells p p)))), (5, .one (.v (.int .i64 x.i)))], [], []⟩, fun x => a.length - x.i, ⟨⟨0, Nat.zero_le _, fun j h => by omega⟩, ?_⟩, fun x => ?_⟩
    · simp [-List.map_take, cuts, agrees, tmBelow, obBelow, AV.under, AV.under1, T.under, T.under0, Go.Ev.look]
    · by_cases hi : x.i < a.length
      · have hb : x.i < b.length := by omega
        have hi' : ((x.i : Int) < (a.length : Int)) = True := by simp [hi]
        have hb' : ((x.i : Int) < (b.length : Int)) = True := by simp [hb]
        have h0 : (0 ≤ (x.i : Int)) = True := by simp
        simp only [go_sem, Nat.reduceBEq, Nat.reduceAdd, Nat.reduceLT, Nat.reduceLeDiff, tab3, List.length_map, hi', hb', h0, decide_true, Int.toNat_natCast, getD_map _ _ _ hi, getD_map _ _ _ hb, Attr.cells]
        refine ⟨_, c81 o p _ _ (ha.2 _ (List.getElem_mem hi)), ?_⟩
        simp only [gK, go_sem, Nat.reduceBEq, Nat.reduceAdd, Nat.reduceLT, Nat.reduceLeDiff, tab3]
        refine ⟨fun hne => ?_, fun heq => ?_⟩
        · have hne : a[x.i] ≠ b[x.i] := by simpa using hne
          simp [x.ne hi hb hne]
        · have heq : a[x.i] = b[x.i] := by simpa using heq
          refine ⟨x.step hi hb heq, ?_, ?_⟩
          · show a.length - (x.i + 1) < a.length - x.i
            omega
          · have hw : IntKind.i64.wrap ((x.i : Int) + 1) = ((x.i + 1 : Nat) : Int) := by rw [wrap_small] <;> omega
            simp [-List.map_take, cuts, agrees, tmBelow, obBelow, AV.under, AV.under1, T.under, T.under0, Go.Ev.look, hw, EqSt.step]
      · have hi' : ((x.i : Int) < (a.length : Int)) = False := by simp; omega
        simp only [go_sem, Nat.reduceBEq, Nat.reduceAdd, Nat.reduceLT, Nat.reduceLeDiff, tab3, List.length_map, hi', decide_false]
        simp [x.all hi hl]


theorem c74 (o : Bool) (a : List Attr) (ha : smallS Attr.small a) : FnOk prog 74 [.one (.s false 4 (a.map (Attr.cells o o)))] ⟨.one (.s true 4 (a.map (Attr.cells true true))), [], [], false⟩ := by
  refine FnOk.intro (E := env) envOk wide func74 rfl (by kernel_rfl) rfl rfl ?_
  simp only [f74, go_sem, Nat.reduceBEq, Nat.reduceAdd, Nat.reduceLT, Nat.reduceLeDiff, tab3, List.length_map]
  have ha1 := ha.1
  refine ⟨by omega, ?_⟩
  refine ⟨UpTo a.length, fun x => ⟨[(0, .one (.s false 4 (a.map (Attr.cells o o)))), (3, .one (.n 0 [] 0 0 a.length)), (4, .one (.v (.int .i64 x.i)))], [some ⟨4, false, (a.take x.i).map (Attr.cells true true) ++ List.replicate (a.length - x.i) [.v (.string ByteArray.empty), .v (.bool false), .v (.int .i64 0), .v (.string ByteArray.empty)], 0⟩], []⟩, fun x => a.length - x.i, ⟨⟨0, Nat.zero_le _⟩, ?_⟩, fun x => ?_⟩
  · simp [-List.map_take, cuts, agrees, tmBelow, obBelow, AV.under, AV.under1, T.under, T.under0, Go.Ev.look]
  · by_cases hi : x.i < a.length
    · have hi' : ((x.i : Int) < (a.length : Int)) = True := by simp [hi]
      have h0 : (0 ≤ (x.i : Int)) = True := by simp
      simp only [go_sem, Nat.reduceBEq, Nat.reduceAdd, Nat.reduceLT, Nat.reduceLeDiff, tab3, List.length_map, hi', h0, decide_true, Int.toNat_natCast, getD_map _ _ _ hi, Attr.cells]
      refine ⟨_, c80 o _ (ha.2 _ (List.getElem_mem hi)), ?_⟩
      simp only [go_sem, Nat.reduceBEq, Nat.reduceAdd, Nat.reduceLT, Nat.reduceLeDiff, tab3, List.length_map, hi', h0, Int.toNat_natCast, Attr.cells]
      refine ⟨by simp; omega, ⟨x.i + 1, hi⟩, ?_, ?_⟩
      · show a.length - (x.i + 1) < a.length - x.i
        omega
      · have hw : IntKind.i64.wrap ((x.i : Int) + 1) = ((x.i + 1 : Nat) : Int) := by rw [wrap_small] <;> omega
        have hs := set_fill (Attr.cells true true) a [.v (.string ByteArray.empty), .v (.bool false), .v (.int .i64 0), .v (.string ByteArray.empty)] x.i hi rfl
        simp only [Attr.cells] at hs
        simp [-List.map_take, cuts, agrees, tmBelow, obBelow, AV.under, AV.under1, T.under, T.under0, Go.Ev.look, hw, hs, take_map, List.length_map]
    · have hi' : ((x.i : Int) < (a.length : Int)) = False := by simp; omega
      have hx : x.i = a.length := by have := x.h; omega
      simp only [go_sem, Nat.reduceBEq, Nat.reduceAdd, Nat.reduceLT, Nat.reduceLeDiff, tab3, List.length_map, hi', decide_false]
      have ho := ownT_map (Attr.cells true true) Attr.own 4 a
      simp [hx, take_map, ho]

structure Span where
  trace : Int
  id : Int
  start : Int
  stop : Int
  err : Bool
  attrs : List Attr
deriving DecidableEq
def Span.cells (o i : Bool) (x : Span) : List T := [.v (.int .i64 x.trace), .v (.int .i64 x.id), .v (.int .i64 x.start), .v (.int .i64 x.stop), .v (.bool x.err), .s o 4 (x.attrs.map (Attr.cells i i))]
def Span.small (x : Span) : Prop := smallS Attr.small x.attrs
theorem Span.own : ∀ x : Span, ∀ t ∈ Span.cells true true x, OwnT t := fun x t ht => by
  simp only [Span.cells, List.mem_cons, List.not_mem_nil, or_false] at ht
  rcases ht with rfl | rfl | rfl | rfl | rfl | rfl <;> (first | exact .v _ | exact ownT_map _ Attr.own _ _ | exact ownT_map _ Attr.own _ _)


theorem c57 (o p : Bool) (x y : Span) (hx : x.small) : FnOk prog 57 [.agg (Span.cells false o x), .agg (Span.cells false p y)] ⟨.one (.v (.bool (decide (x = y)))), [], [], false⟩ := by
  refine FnOk.intro (E := env) envOk wide func57 rfl (by kernel_rfl) rfl rfl ?_
  simp only [f57, Span.cells, go_sem, Nat.reduceBEq, Nat.reduceAdd, Nat.reduceLT, Nat.reduceLeDiff, bytes_eq]
  cases x; cases y
  simp only [Span.mk.injEq]
  repeat' first | refine And.intro ?_ ?_ | intro _
  all_goals try (simp_all; done)
  refine ⟨_, c75 o p _ _ hx, ?_⟩
  simp only [go_sem, Nat.reduceBEq, Nat.reduceAdd, Nat.reduceLT, Nat.reduceLeDiff, bytes_eq]
  repeat' first | refine And.intro ?_ ?_ | intro _
  all_goals try (simp_all; done)


theorem c56 (o : Bool) (x : Span) (hx : x.small) : FnOk prog 56 [.agg (Span.cells false o x)] ⟨.agg (Span.cells true true x), [], [], false⟩ := by
  refine FnOk.intro (E := env) envOk wide func56 rfl (by kernel_rfl) rfl rfl ?_
  simp only [f56, Span.cells, go_sem, Nat.reduceBEq, Nat.reduceAdd, Nat.reduceLT, Nat.reduceLeDiff, tab3]
  refine ⟨_, c74 o _ hx, ?_⟩
  simp only [go_sem, Nat.reduceBEq, Nat.reduceAdd, Nat.reduceLT, Nat.reduceLeDiff, take_map, List.length_map]
  exact ownT_map _ Attr.own _ _


theorem c27 (o p : Bool) (a b : List Span) (ha : smallS Span.small a) : FnOk prog 27 [.one (.s false 6 (a.map (Span.cells o o))), .one (.s false 6 (b.map (Span.cells p p)))] ⟨.one (.v (.bool (decide (a = b)))), [], [], false⟩ := by
  refine FnOk.intro (E := env) envOk wide func27 rfl (by kernel_rfl) rfl rfl ?_
  simp only [f27, go_sem, Nat.reduceBEq, Nat.reduceAdd, Nat.reduceLT, Nat.reduceLeDiff, tab3, List.length_map]
  refine ⟨fun h => ?_, fun h => ?_⟩
  · have : a ≠ b := by
      rintro rfl
      simp at h
    simp [this]
  · have ha1 := ha.1
    have hl : a.length = b.length := by
      have : ((a.length : Int) = b.length) := by simpa using h
      omega
    refine ⟨EqSt a b, fun x => ⟨[(0, .one (.s false 6 (a.map (Span.cells o o)))), (1, .one (.s false 6 (b.map (Span.cells p p)))), (5, .one (.v (.int .i64 x.i)))], [], []⟩, fun x => a.length - x.i, ⟨⟨0, Nat.zero_le _, fun j h => by omega⟩, ?_⟩, fun x => ?_⟩
    · simp [-List.map_take, cuts, agrees, tmBelow, obBelow, AV.under, AV.under1, T.under, T.under0, Go.Ev.look]
    · by_cases hi : x.i < a.length
      · have hb : x.i < b.length := by omega
        have hi' : ((x.i : Int) < (a.length : Int)) = True := by simp [hi]
        have hb' : ((x.i : Int) < (b.length : Int)) = True := by simp [hb]
        have h0 : (0 ≤ (x.i : Int)) = True := by simp
        simp only [go_sem, Nat.reduceBEq, Nat.reduceAdd, Nat.reduceLT, Nat.reduceLeDiff, tab3, List.length_map, hi', hb', h0, decide_true, Int.toNat_natCast, getD_map _ _ _ hi, getD_map _ _ _ hb, Span.cells]
        refine ⟨_, c57 o p _ _ (ha.2 _ (List.getElem_mem hi)), ?_⟩
        simp only [gK, go_sem, Nat.reduceBEq, Nat.reduceAdd, Nat.reduceLT, Nat.reduceLeDiff, tab3]
        refine ⟨fun hne => ?_, fun heq => ?_⟩
        · have hne : a[x.i] ≠ b[x.i] := by simpa using hne
          simp [x.ne hi hb hne]
        · have heq : a[x.i] = b[x.i] := by simpa using heq
          refine ⟨x.step hi hb heq, ?_, ?_⟩
          · show a.length - (x.i + 1) < a.length - x.i
            omega
          · have hw : IntKind.i64.wrap ((x.i : Int) + 1) = ((x.i + 1 : Nat) : Int) := by rw [wrap_small] <;> omega
            simp [-List.map_take, cuts, agrees, tmBelow, obBelow, AV.under, AV.under1, T.under, T.under0, Go.Ev.look, hw, EqSt.step]
      · have hi' : ((x.i : Int) < (a.length : Int)) = False := by simp; omega
        simp only [go_sem, Nat.reduceBEq, Nat.reduceAdd, Nat.reduceLT, Nat.reduceLeDiff, tab3, List.length_map, hi', decide_false]
        simp [x.all hi hl]


theorem c26 (o : Bool) (a : List Span) (ha : smallS Span.small a) : FnOk prog 26 [.one (.s false 6 (a.map (Span.cells o o)))] ⟨.one (.s true 6 (a.map (Span.cells true true))), [], [], false⟩ := by
  refine FnOk.intro (E := env) envOk wide func26 rfl (by kernel_rfl) rfl rfl ?_
  simp only [f26, go_sem, Nat.reduceBEq, Nat.reduceAdd, Nat.reduceLT, Nat.reduceLeDiff, tab3, List.length_map]
  have ha1 := ha.1
  refine ⟨by omega, ?_⟩
  refine ⟨UpToE a.length, fun x => ⟨[(0, .one (.s false 6 (a.map (Span.cells o o)))), (3, .one (.n 0 [] 0 0 a.length)), (4, .one (.v (.int .i64 x.i)))], [some ⟨6, false, (a.take x.i).map (Span.cells true true) ++ List.replicate (a.length - x.i) [.v (.int .i64 0), .v (.int .i64 0), .v (.int .i64 0), .v (.int .i64 0), .v (.bool false), .s true 4 []], x.ep⟩], []⟩, fun x => a.length - x.i, ⟨⟨0, Nat.zero_le _, 0⟩, ?_⟩, fun x => ?_⟩
  · simp [-List.map_take, cuts, agrees, tmBelow, obBelow, AV.under, AV.under1, T.under, T.under0, Go.Ev.look]
  · by_cases hi : x.i < a.length
    · have hi' : ((x.i : Int) < (a.length : Int)) = True := by simp [hi]
      have h0 : (0 ≤ (x.i : Int)) = True := by simp
      simp only [go_sem, Nat.reduceBEq, Nat.reduceAdd, Nat.reduceLT, Nat.reduceLeDiff, tab3, List.length_map, hi', h0, decide_true, Int.toNat_natCast, getD_map _ _ _ hi, Span.cells]
      refine ⟨_, c56 o _ (ha.2 _ (List.getElem_mem hi)), ?_⟩
      simp only [go_sem, Nat.reduceBEq, Nat.reduceAdd, Nat.reduceLT, Nat.reduceLeDiff, tab3, List.length_map, hi', h0, Int.toNat_natCast, Span.cells]
      refine ⟨by simp; omega, ⟨x.i + 1, hi, x.ep + 1⟩, ?_, ?_⟩
      · show a.length - (x.i + 1) < a.length - x.i
        omega
      · have hw : IntKind.i64.wrap ((x.i : Int) + 1) = ((x.i + 1 : Nat) : Int) := by rw [wrap_small] <;> omega
        have hs := set_fill (Span.cells true true) a [.v (.int .i64 0), .v (.int .i64 0), .v (.int .i64 0), .v (.int .i64 0), .v (.bool false), .s true 4 []] x.i hi rfl
        simp only [Span.cells] at hs
        simp [-List.map_take, cuts, agrees, tmBelow, obBelow, AV.under, AV.under1, T.under, T.under0, Go.Ev.look, hw, hs, take_map, List.length_map]
    · have hi' : ((x.i : Int) < (a.length : Int)) = False := by simp; omega
      have hx : x.i = a.length := by have := x.h; omega
      simp only [go_sem, Nat.reduceBEq, Nat.reduceAdd, Nat.reduceLT, Nat.reduceLeDiff, tab3, List.length_map, hi', decide_false]
      have ho := ownT_map (Span.cells true true) Span.own 6 a
      simp [hx, take_map, ho]

structure Deed where
  op : Int
  task : Int
  s : Span
  trace : Int
  stamp : Int
  code : Int
  keep : Bool
  void : Bool
  took : Int
  n : Int
  forgot : Int
  now : Int
  inv : Int
  lin : Int
  res : Int
deriving DecidableEq
def Deed.cells (o i : Bool) (x : Deed) : List T := [.v (.int .i64 x.op), .v (.int .i64 x.task), .v (.int .i64 x.s.trace), .v (.int .i64 x.s.id), .v (.int .i64 x.s.start), .v (.int .i64 x.s.stop), .v (.bool x.s.err), .s o 4 (x.s.attrs.map (Attr.cells i i)), .v (.int .i64 x.trace), .v (.int .i64 x.stamp), .v (.int .i64 x.code), .v (.bool x.keep), .v (.bool x.void), .v (.int .i64 x.took), .v (.int .i64 x.n), .v (.int .i64 x.forgot), .v (.int .i64 x.now), .v (.int .i64 x.inv), .v (.int .i64 x.lin), .v (.int .i64 x.res)]
def Deed.small (x : Deed) : Prop := x.s.small
theorem Deed.own : ∀ x : Deed, ∀ t ∈ Deed.cells true true x, OwnT t := fun x t ht => by
  simp only [Deed.cells, List.mem_cons, List.not_mem_nil, or_false] at ht
  rcases ht with rfl | rfl | rfl | rfl | rfl | rfl | rfl | rfl | rfl | rfl | rfl | rfl | rfl | rfl | rfl | rfl | rfl | rfl | rfl | rfl <;> (first | exact .v _ | exact ownT_map _ Attr.own _ _)


theorem c60 (o p : Bool) (x y : Deed) (hx : x.small) : FnOk prog 60 [.agg (Deed.cells false o x), .agg (Deed.cells false p y)] ⟨.one (.v (.bool (decide (x = y)))), [], [], false⟩ := by
  refine FnOk.intro (E := env) envOk wide func60 rfl (by kernel_rfl) rfl rfl ?_
  simp only [f60, Deed.cells, go_sem, Nat.reduceBEq, Nat.reduceAdd, Nat.reduceLT, Nat.reduceLeDiff, bytes_eq]
  cases x; cases y
  simp only [Deed.mk.injEq]
  repeat' first | refine And.intro ?_ ?_ | intro _
  all_goals try (simp_all; done)
  refine ⟨_, c57 o p _ _ hx, ?_⟩
  simp only [go_sem, Nat.reduceBEq, Nat.reduceAdd, Nat.reduceLT, Nat.reduceLeDiff, bytes_eq]
  repeat' first | refine And.intro ?_ ?_ | intro _
  all_goals try (simp_all; done)


theorem c59 (o : Bool) (x : Deed) (hx : x.small) : FnOk prog 59 [.agg (Deed.cells false o x)] ⟨.agg (Deed.cells true true x), [], [], false⟩ := by
  refine FnOk.intro (E := env) envOk wide func59 rfl (by kernel_rfl) rfl rfl ?_
  simp only [f59, Deed.cells, go_sem, Nat.reduceBEq, Nat.reduceAdd, Nat.reduceLT, Nat.reduceLeDiff, tab3]
  refine ⟨_, c56 o _ hx, ?_⟩
  simp only [go_sem, Nat.reduceBEq, Nat.reduceAdd, Nat.reduceLT, Nat.reduceLeDiff, Span.cells, take_map, List.length_map]
  exact ownT_map _ Attr.own _ _


theorem c32 (o p : Bool) (a b : List Deed) (ha : smallS Deed.small a) : FnOk prog 32 [.one (.s false 20 (a.map (Deed.cells o o))), .one (.s false 20 (b.map (Deed.cells p p)))] ⟨.one (.v (.bool (decide (a = b)))), [], [], false⟩ := by
  refine FnOk.intro (E := env) envOk wide func32 rfl (by kernel_rfl) rfl rfl ?_
  simp only [f32, go_sem, Nat.reduceBEq, Nat.reduceAdd, Nat.reduceLT, Nat.reduceLeDiff, tab3, List.length_map]
  refine ⟨fun h => ?_, fun h => ?_⟩
  · have : a ≠ b := by
      rintro rfl
      simp at h
    simp [this]
  · have ha1 := ha.1
    have hl : a.length = b.length := by
      have : ((a.length : Int) = b.length) := by simpa using h
      omega
    refine ⟨EqSt a b, fun x => ⟨[(0, .one (.s false 20 (a.map (Deed.cells o o)))), (1, .one (.s false 20 (b.map (Deed.cells p p)))), (5, .one (.v (.int .i64 x.i)))], [], []⟩, fun x => a.length - x.i, ⟨⟨0, Nat.zero_le _, fun j h => by omega⟩, ?_⟩, fun x => ?_⟩
    · simp [-List.map_take, cuts, agrees, tmBelow, obBelow, AV.under, AV.under1, T.under, T.under0, Go.Ev.look]
    · by_cases hi : x.i < a.length
      · have hb : x.i < b.length := by omega
        have hi' : ((x.i : Int) < (a.length : Int)) = True := by simp [hi]
        have hb' : ((x.i : Int) < (b.length : Int)) = True := by simp [hb]
        have h0 : (0 ≤ (x.i : Int)) = True := by simp
        simp only [go_sem, Nat.reduceBEq, Nat.reduceAdd, Nat.reduceLT, Nat.reduceLeDiff, tab3, List.length_map, hi', hb', h0, decide_true, Int.toNat_natCast, getD_map _ _ _ hi, getD_map _ _ _ hb, Deed.cells]
        refine ⟨_, c60 o p _ _ (ha.2 _ (List.getElem_mem hi)), ?_⟩
        simp only [gK, go_sem, Nat.reduceBEq, Nat.reduceAdd, Nat.reduceLT, Nat.reduceLeDiff, tab3]
        refine ⟨fun hne => ?_, fun heq => ?_⟩
        · have hne : a[x.i] ≠ b[x.i] := by simpa using hne
          simp [x.ne hi hb hne]
        · have heq : a[x.i] = b[x.i] := by simpa using heq
          refine ⟨x.step hi hb heq, ?_, ?_⟩
          · show a.length - (x.i + 1) < a.length - x.i
            omega
          · have hw : IntKind.i64.wrap ((x.i : Int) + 1) = ((x.i + 1 : Nat) : Int) := by rw [wrap_small] <;> omega
            simp [-List.map_take, cuts, agrees, tmBelow, obBelow, AV.under, AV.under1, T.under, T.under0, Go.Ev.look, hw, EqSt.step]
      · have hi' : ((x.i : Int) < (a.length : Int)) = False := by simp; omega
        simp only [go_sem, Nat.reduceBEq, Nat.reduceAdd, Nat.reduceLT, Nat.reduceLeDiff, tab3, List.length_map, hi', decide_false]
        simp [x.all hi hl]


theorem c30 (o : Bool) (a : List Deed) (ha : smallS Deed.small a) : FnOk prog 30 [.one (.s false 20 (a.map (Deed.cells o o)))] ⟨.one (.s true 20 (a.map (Deed.cells true true))), [], [], false⟩ := by
  refine FnOk.intro (E := env) envOk wide func30 rfl (by kernel_rfl) rfl rfl ?_
  simp only [f30, go_sem, Nat.reduceBEq, Nat.reduceAdd, Nat.reduceLT, Nat.reduceLeDiff, tab3, List.length_map]
  have ha1 := ha.1
  refine ⟨by omega, ?_⟩
  refine ⟨UpToE a.length, fun x => ⟨[(0, .one (.s false 20 (a.map (Deed.cells o o)))), (3, .one (.n 0 [] 0 0 a.length)), (4, .one (.v (.int .i64 x.i)))], [some ⟨20, false, (a.take x.i).map (Deed.cells true true) ++ List.replicate (a.length - x.i) [.v (.int .i64 0), .v (.int .i64 0), .v (.int .i64 0), .v (.int .i64 0), .v (.int .i64 0), .v (.int .i64 0), .v (.bool false), .s true 4 [], .v (.int .i64 0), .v (.int .i64 0), .v (.int .i64 0), .v (.bool false), .v (.bool false), .v (.int .i64 0), .v (.int .i64 0), .v (.int .i64 0), .v (.int .i64 0), .v (.int .i64 0), .v (.int .i64 0), .v (.int .i64 0)], x.ep⟩], []⟩, fun x => a.length - x.i, ⟨⟨0, Nat.zero_le _, 0⟩, ?_⟩, fun x => ?_⟩
  · simp [-List.map_take, cuts, agrees, tmBelow, obBelow, AV.under, AV.under1, T.under, T.under0, Go.Ev.look]
  · by_cases hi : x.i < a.length
    · have hi' : ((x.i : Int) < (a.length : Int)) = True := by simp [hi]
      have h0 : (0 ≤ (x.i : Int)) = True := by simp
      simp only [go_sem, Nat.reduceBEq, Nat.reduceAdd, Nat.reduceLT, Nat.reduceLeDiff, tab3, List.length_map, hi', h0, decide_true, Int.toNat_natCast, getD_map _ _ _ hi, Deed.cells]
      refine ⟨_, c59 o _ (ha.2 _ (List.getElem_mem hi)), ?_⟩
      simp only [go_sem, Nat.reduceBEq, Nat.reduceAdd, Nat.reduceLT, Nat.reduceLeDiff, tab3, List.length_map, hi', h0, Int.toNat_natCast, Deed.cells]
      refine ⟨by simp; omega, ⟨x.i + 1, hi, x.ep + 1⟩, ?_, ?_⟩
      · show a.length - (x.i + 1) < a.length - x.i
        omega
      · have hw : IntKind.i64.wrap ((x.i : Int) + 1) = ((x.i + 1 : Nat) : Int) := by rw [wrap_small] <;> omega
        have hs := set_fill (Deed.cells true true) a [.v (.int .i64 0), .v (.int .i64 0), .v (.int .i64 0), .v (.int .i64 0), .v (.int .i64 0), .v (.int .i64 0), .v (.bool false), .s true 4 [], .v (.int .i64 0), .v (.int .i64 0), .v (.int .i64 0), .v (.bool false), .v (.bool false), .v (.int .i64 0), .v (.int .i64 0), .v (.int .i64 0), .v (.int .i64 0), .v (.int .i64 0), .v (.int .i64 0), .v (.int .i64 0)] x.i hi rfl
        simp only [Deed.cells] at hs
        simp [-List.map_take, cuts, agrees, tmBelow, obBelow, AV.under, AV.under1, T.under, T.under0, Go.Ev.look, hw, hs, take_map, List.length_map]
    · have hi' : ((x.i : Int) < (a.length : Int)) = False := by simp; omega
      have hx : x.i = a.length := by have := x.h; omega
      simp only [go_sem, Nat.reduceBEq, Nat.reduceAdd, Nat.reduceLT, Nat.reduceLeDiff, tab3, List.length_map, hi', decide_false]
      have ho := ownT_map (Deed.cells true true) Deed.own 20 a
      simp [hx, take_map, ho]

end Go.Proofs.Try.Ev
