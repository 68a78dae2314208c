import Derived.Test.YtalbniledlbogaaLTabsBags
import Derived.Test.YtalbniledlbogaaEvIns
import Derived.Test.YtalbniledlbogaaEvRf
import Derived.Test.YtalbniledlbogaaEvS
set_option linter.unusedSectionVars false
namespace Go.Proofs.Try.Ev
open Go Go.Ev Go.Proofs
set_option maxHeartbeats 4000000
set_option maxRecDepth 100000
set_option linter.unusedSimpArgs false
set_option linter.unusedVariables false
set_option linter.unusedSectionVars false
structure Cur where
  f_b : (List Int)
  f_i : Int
  f_h : Int
deriving DecidableEq, Inhabited
def Cur.cells (o : Bool) (x : Cur) : List T := [.s o 1 (List.map cU8 x.f_b), .v (.int .i64 x.f_i), .v (.int .i64 x.f_h)]
theorem own_Cur (x : Cur) : OwnL (Cur.cells true x) := ⟨ownSl own_cU8 _, .v _, .v _, trivial⟩
theorem frz_Cur {o : Bool} (x : Cur) : frzL (Cur.cells o x) = Cur.cells false x := by
  show [T.s false 1 (frzLL (List.map cU8 x.f_b)), T.v (.int .i64 x.f_i), T.v (.int .i64 x.f_h)] = _
  rw [frzMap (f := cU8) (g := cU8) frz_cU8 x.f_b]
  rfl
theorem sh_Cur (x : Cur) : (Cur.cells false x).map T.sh = Cur.cells false x := rfl
theorem fz_Cur {o : Bool} (x : Cur) : (Cur.cells o x).map T.fz = Cur.cells false x := by
  show [T.s false 1 (frzLL (List.map cU8 x.f_b)), T.v (.int .i64 x.f_i), T.v (.int .i64 x.f_h)] = _
  rw [frzMap (f := cU8) (g := cU8) frz_cU8 x.f_b]
  rfl
def Cur.bd (M : Nat) (x : Cur) : Prop := bdS (fun _ _ => True) M x.f_b
def Cur.rg (x : Cur) : Prop := ((x.f_b).length ≤ 9223372036854775807 ∧ ∀ y ∈ x.f_b, True) ∧ I64 x.f_i ∧ I64 x.f_h ∧ True
theorem rg_Cur {o : Bool} {x : Cur} (h : fitL (Cur.cells o x)) : Cur.rg x := ⟨⟨by simpa using h.1.1, fun y0 hy0 => trivial⟩, (range_of_fit h.2.1), (range_of_fit h.2.2.1), trivial⟩
theorem Cur.rg.f_b {x : Cur} (h : Cur.rg x) : ((x.f_b).length ≤ 9223372036854775807 ∧ ∀ y ∈ x.f_b, True) := h.1
theorem Cur.rg.f_i {x : Cur} (h : Cur.rg x) : I64 x.f_i := h.2.1
theorem Cur.rg.f_h {x : Cur} (h : Cur.rg x) : I64 x.f_h := h.2.2.1
structure Attr where
  Key : ByteArray
  Num : Bool
  N : Int
  Text : ByteArray
deriving DecidableEq, Inhabited
def Attr.cells (x : Attr) : List T := [.v (.string x.Key), .v (.bool x.Num), .v (.int .i64 x.N), .v (.string x.Text)]
theorem own_Attr (x : Attr) : OwnL (Attr.cells x) := ⟨.v _, .v _, .v _, .v _, trivial⟩
theorem frz_Attr (x : Attr) : frzL (Attr.cells x) = Attr.cells x := rfl
theorem fz_Attr (x : Attr) : (Attr.cells x).map T.fz = Attr.cells x := rfl
theorem fl_Attr (x : Attr) : (Attr.cells x).map T.flat = Attr.cells x := rfl
def Attr.bd (M : Nat) (x : Attr) : Prop := x.Key.size ≤ M ∧ x.Text.size ≤ M
def Attr.rg (x : Attr) : Prop := (x.Key).size ≤ 9223372036854775807 ∧ True ∧ I64 x.N ∧ (x.Text).size ≤ 9223372036854775807 ∧ True
theorem rg_Attr {x : Attr} (h : fitL (Attr.cells x)) : Attr.rg x := ⟨(Nat.le_of_ble_eq_true h.1), trivial, (range_of_fit h.2.2.1), (Nat.le_of_ble_eq_true h.2.2.2.1), trivial⟩
theorem Attr.rg.Key {x : Attr} (h : Attr.rg x) : (x.Key).size ≤ 9223372036854775807 := h.1
theorem Attr.rg.N {x : Attr} (h : Attr.rg x) : I64 x.N := h.2.2.1
theorem Attr.rg.Text {x : Attr} (h : Attr.rg x) : (x.Text).size ≤ 9223372036854775807 := h.2.2.2.1
structure Span where
  Trace : Int
  Id : Int
  Start : Int
  End : Int
  Err : Bool
  Attrs : (List Attr)
deriving DecidableEq, Inhabited
def Span.cells (o : Bool) (x : Span) : List T := [.v (.int .i64 x.Trace), .v (.int .i64 x.Id), .v (.int .i64 x.Start), .v (.int .i64 x.End), .v (.bool x.Err), .s o 4 (List.map Attr.cells x.Attrs)]
theorem own_Span (x : Span) : OwnL (Span.cells true x) := ⟨.v _, .v _, .v _, .v _, .v _, ownSl own_Attr _, trivial⟩
theorem frz_Span {o : Bool} (x : Span) : frzL (Span.cells o x) = Span.cells false x := by
  show [T.v (.int .i64 x.Trace), T.v (.int .i64 x.Id), T.v (.int .i64 x.Start), T.v (.int .i64 x.End), T.v (.bool x.Err), T.s false 4 (frzLL (List.map Attr.cells x.Attrs))] = _
  rw [frzMap (f := Attr.cells) (g := Attr.cells) frz_Attr x.Attrs]
  rfl
theorem sh_Span (x : Span) : (Span.cells false x).map T.sh = Span.cells false x := rfl
theorem fz_Span {o : Bool} (x : Span) : (Span.cells o x).map T.fz = Span.cells false x := by
  show [T.v (.int .i64 x.Trace), T.v (.int .i64 x.Id), T.v (.int .i64 x.Start), T.v (.int .i64 x.End), T.v (.bool x.Err), T.s false 4 (frzLL (List.map Attr.cells x.Attrs))] = _
  rw [frzMap (f := Attr.cells) (g := Attr.cells) frz_Attr x.Attrs]
  rfl
def Span.bd (M : Nat) (x : Span) : Prop := bdS Attr.bd M x.Attrs
def Span.rg (x : Span) : Prop := I64 x.Trace ∧ I64 x.Id ∧ I64 x.Start ∧ I64 x.End ∧ True ∧ ((x.Attrs).length ≤ 9223372036854775807 ∧ ∀ y ∈ x.Attrs, Attr.rg y) ∧ True
theorem rg_Span {o : Bool} {x : Span} (h : fitL (Span.cells o x)) : Span.rg x := ⟨(range_of_fit h.1), (range_of_fit h.2.1), (range_of_fit h.2.2.1), (range_of_fit h.2.2.2.1), trivial, ⟨by simpa using h.2.2.2.2.2.1.1, fun y0 hy0 => (rg_Attr (fitLL_map h.2.2.2.2.2.1.2 y0 hy0))⟩, trivial⟩
theorem Span.rg.Trace {x : Span} (h : Span.rg x) : I64 x.Trace := h.1
theorem Span.rg.Id {x : Span} (h : Span.rg x) : I64 x.Id := h.2.1
theorem Span.rg.Start {x : Span} (h : Span.rg x) : I64 x.Start := h.2.2.1
theorem Span.rg.End {x : Span} (h : Span.rg x) : I64 x.End := h.2.2.2.1
theorem Span.rg.Attrs {x : Span} (h : Span.rg x) : ((x.Attrs).length ≤ 9223372036854775807 ∧ ∀ y ∈ x.Attrs, Attr.rg y) := h.2.2.2.2.2.1
/-- Where a cursor stands. -/
structure CurOk (c : Cur) : Prop where
  i0 : 0 ≤ c.f_i
  i1 : c.f_i ≤ (c.f_b.length : Int)
  l : c.f_b.length ≤ 4611686018427387904
theorem iAnd255 (a : Int) : 0 ≤ iAnd .i64 a 255 ∧ iAnd .i64 a 255 ≤ 255 := by
  unfold iAnd
  have h : (BitVec.toNat (BitVec.ofInt IntKind.i64.bits a &&& BitVec.ofInt IntKind.i64.bits 255)) ≤ 255 := by
    rw [BitVec.toNat_and]
    exact Nat.le_trans Nat.and_le_right (by decide)
  generalize BitVec.toNat (BitVec.ofInt IntKind.i64.bits a &&& BitVec.ofInt IntKind.i64.bits 255) = n at h
  rw [wrap_small (n := (n : Int)) (by omega) (by omega)]
  omega
theorem loopC_run {σ ρ : Type} {b : Nat → σ → Step σ ρ} {P : Nat → σ → Prop} (h : ∀ i s, P i s → ∃ v, b i s = .next v ∧ P (i + 1) v) : ∀ (n i : Nat) (s : σ), P i s → ∃ v, loopC b i s n = .fin v ∧ P (i + n) v
  | 0, i, s, hs => ⟨s, rfl, hs⟩
  | n + 1, i, s, hs => by
    obtain ⟨v, e, hv⟩ := h i s hs
    obtain ⟨u, e', hu⟩ := loopC_run h n (i + 1) v hv
    exact ⟨u, by unfold loopC; rw [e]; exact e', by rw [show i + (n + 1) = i + 1 + n by omega]; exact hu⟩
def spec_l1New_b1 (i1 : Nat) (s1 : Int) (a1 : Int) : Step (Int) Cur :=
  (bif (decide (((i1 : Nat) : Int) < 4000)) then (.next (iAnd .i64 (IntKind.i64.wrap ((IntKind.i64.wrap ((IntKind.i64.wrap (s1 * 137)) + (IntKind.i64.wrap a1))) + 11)) 1073741823)) else (.stop s1))
def spec_l1New (p0 : (List Int)) : Cur :=
  (Fin.get (fun s1 => (Cur.mk p0 0 s1)) (loopL spec_l1New_b1 0 (IntKind.i64.wrap (140371 + (((p0).length : Nat) : Int))) p0))
theorem c_spec_l1New (p0 : (List Int)) : FnOk prog 91 [.one (.s false 1 (List.map cU8 p0))] ⟨.one (.b ((Cur.cells false) (spec_l1New p0))), [], [], true⟩ := by
  refine FnOk.introP (E := env) envOk wide func91 rfl (by kernel_rfl) rfl ?_
  have hg := spec_l1New.eq_1 p0
  have hown : (fun g : Cur => (Cur.cells false) g) = _ ∧ ∀ g : Cur, ((Cur.cells false) g).all T.flatB = true := ⟨rfl, fun _ => rfl⟩
  refine seqE ?_
  refine seqE ?_
  refine lenM fun hN1 => ?_
  refine seqE ?_
  refine seqE ?_
  refine loopLE hg [0] (fun x1 => [(3, .one (.v (.int .i64 x1.s))), (4, .one (.v (.int .i64 ((x1.i : Nat) : Int))))]) (fun x1 => []) [] ?_ (fun x1 => ?_)
  · exact ⟨rfl, ⟨rfl, rfl, rfl, trivial⟩, trivial, trivial⟩
  refine seqE ?_
  refine seqE ?_
  refine lenM fun hN2 => ?_
  refine tstL (fun hi1 => ?_) (fun hi1 => ?_)
  · have hb1 := (x1.bdy hi1).trans (spec_l1New_b1.eq_1 ..)
    have hw1 := wrap_succ hi1 (by first | assumption | omega)
    refine brD hb1 (fun hb1 h3 => ?_) (fun hb1 h3 => ?_)
    · refine seqE ?_
      refine idxAt hi1 ?_
      exact x1.goE hi1 hb1 [] ⟨rfl, ⟨rfl, (eqInt hw1), rfl, trivial⟩, trivial, trivial⟩
    · have hg := finE hg (x1.outS hi1 hb1)
      refine seqE ?_
      refine litE (m := 0) rfl ?_
      exact leafP hown hg
  have hg := finE hg (x1.fin hi1)
  refine seqE ?_
  refine litE (m := 0) rfl ?_
  exact leafP hown hg
theorem l1New_loop : ∀ (l : List Int) (i : Nat) (s : Int), ∃ v, loopL spec_l1New_b1 i s l = .fin v
  | [], i, s => ⟨s, rfl⟩
  | a :: l, i, s => by
    unfold loopL spec_l1New_b1
    cases decide (((i : Nat) : Int) < 4000)
    · exact ⟨s, rfl⟩
    · exact l1New_loop l (i + 1) _
theorem l1New_ok {p0 : List Int} (h : p0.length ≤ 1048576) : CurOk (spec_l1New p0) := by
  unfold spec_l1New
  obtain ⟨v, e⟩ := l1New_loop p0 0 (IntKind.i64.wrap (140371 + (((p0).length : Nat) : Int)))
  rw [e]
  exact ⟨Int.le_refl 0, Int.natCast_nonneg _, Nat.le_trans h (by omega)⟩
def spec_l1Byte (p0 : Cur) : (Int × Cur) :=
  (bif (decide (p0.f_i < (((p0.f_b).length : Nat) : Int))) then ((iAnd .i64 (IntKind.i64.wrap ((iAnd .i64 (iXor .i64 (iShr .i64 (IntKind.i64.wrap ((IntKind.i64.wrap (p0.f_h * 6364136223846793005)) + 1442695040888963407)) 33) (iShr .i64 (IntKind.i64.wrap ((IntKind.i64.wrap (p0.f_h * 6364136223846793005)) + 1442695040888963407)) 47)) 255) + (IntKind.i64.wrap (p0.f_b[(p0.f_i).toNat]?.getD default)))) 255), (Cur.mk p0.f_b (IntKind.i64.wrap (p0.f_i + 1)) (IntKind.i64.wrap ((IntKind.i64.wrap (p0.f_h * 6364136223846793005)) + 1442695040888963407)))) else ((iAnd .i64 (iXor .i64 (iShr .i64 (IntKind.i64.wrap ((IntKind.i64.wrap (p0.f_h * 6364136223846793005)) + 1442695040888963407)) 33) (iShr .i64 (IntKind.i64.wrap ((IntKind.i64.wrap (p0.f_h * 6364136223846793005)) + 1442695040888963407)) 47)) 255), (Cur.mk p0.f_b p0.f_i (IntKind.i64.wrap ((IntKind.i64.wrap (p0.f_h * 6364136223846793005)) + 1442695040888963407)))))
theorem c_spec_l1Byte (p0 : Cur) (hs : CurOk p0) : FnOk prog 137 [.tup [.one (.b ((Cur.cells false) p0))]] ⟨.one (.v (.int .i64 (spec_l1Byte p0).1)), [.one (.b ((Cur.cells false) ((spec_l1Byte p0).2)))], [], false⟩ := by
  refine FnOk.introB (E := env) envOk wide func137 rfl (by kernel_rfl) rfl ?_
  have hg := spec_l1Byte.eq_1 p0
  have hown : ((∀ g : (Int × Cur), AV.Own (AV.one (.v (.int .i64 g.1)))) ∧ (fun g : (Int × Cur) => (Cur.cells false) (g.2)) = _) ∧ ∀ g : (Int × Cur), List.all ((Cur.cells false) (g.2)) T.flatB = true := ⟨⟨fun g => .v _, rfl⟩, fun _ => rfl⟩
  refine seqE ?_
  refine seqE ?_
  refine seqE ?_
  refine .inl ⟨by kernel_rfl, ?_⟩
  refine andE (by (first | omega | (simp (disch := omega) only [wrap_small, mid_eq, List.length_map]; omega) | (simp; done) | (simp; omega) | (simp at *; omega) | (simp at *; done) | (simp_all; done) | (simp_all; omega))) ?_
  refine andE (by (first | omega | (simp (disch := omega) only [wrap_small, mid_eq, List.length_map]; omega) | (simp; done) | (simp; omega) | (simp at *; omega) | (simp at *; done) | (simp_all; done) | (simp_all; omega))) ?_
  refine seqE ?_
  refine seqE ?_
  refine .inl ⟨by kernel_rfl, ?_⟩
  refine lenM fun hN1 => ?_
  refine brD hg (fun hg h2 => ?_) (fun hg h2 => ?_)
  · refine seqE ?_
    refine .inl ⟨by kernel_rfl, ?_⟩
    refine idxOf (l := p0.f_b) (by have q := hs.i0; omega) (fun hq3 => ?_)
    refine seqE ?_
    exact leafB hown hg
  · refine seqE ?_
    exact leafB hown hg
theorem ok_l1Byte {c : Cur} (h : CurOk c) : CurOk (spec_l1Byte c).2 := by
  obtain ⟨h1, h2, h3⟩ := h
  unfold spec_l1Byte
  by_cases hc : c.f_i < ((c.f_b.length : Nat) : Int)
  · rw [decide_eq_true hc, cond_true, wrap_small (n := c.f_i + 1) (by omega) (by omega)]
    exact ⟨by show 0 ≤ c.f_i + 1; omega, by show c.f_i + 1 ≤ ((c.f_b.length : Nat) : Int); omega, h3⟩
  · rw [decide_eq_false hc, cond_false]
    exact ⟨h1, h2, h3⟩
theorem bd_l1Byte (c : Cur) : 0 ≤ (spec_l1Byte c).1 ∧ (spec_l1Byte c).1 ≤ 255 := by
  unfold spec_l1Byte
  cases decide (c.f_i < ((c.f_b.length : Nat) : Int)) <;> exact iAnd255 _
def spec_l1Below (p0 : Cur) (p1 : Int) : (Int × Cur) :=
  (bif (decide (p1 ≤ 0)) then (0, p0) else (bif (decide (p1 ≤ 256)) then ((Int.tmod (spec_l1Byte p0).1 p1), (spec_l1Byte p0).2) else ((Int.tmod (IntKind.i64.wrap ((IntKind.i64.wrap ((IntKind.i64.wrap ((spec_l1Byte p0).1 * 65536)) + (IntKind.i64.wrap ((spec_l1Byte (spec_l1Byte p0).2).1 * 256)))) + (spec_l1Byte (spec_l1Byte (spec_l1Byte p0).2).2).1)) p1), (spec_l1Byte (spec_l1Byte (spec_l1Byte p0).2).2).2)))
theorem c_spec_l1Below (p0 : Cur) (p1 : Int) (hs : CurOk p0) : FnOk prog 94 [.tup [.one (.b ((Cur.cells false) p0))], .one (.v (.int .i64 p1))] ⟨.one (.v (.int .i64 (spec_l1Below p0 p1).1)), [.one (.b ((Cur.cells false) ((spec_l1Below p0 p1).2)))], [], false⟩ := by
  refine FnOk.introB (E := env) envOk wide func94 rfl (by kernel_rfl) rfl ?_
  have hg := spec_l1Below.eq_1 p0 p1
  have hown : ((∀ g : (Int × Cur), AV.Own (AV.one (.v (.int .i64 g.1)))) ∧ (fun g : (Int × Cur) => (Cur.cells false) (g.2)) = _) ∧ ∀ g : (Int × Cur), List.all ((Cur.cells false) (g.2)) T.flatB = true := ⟨⟨fun g => .v _, rfl⟩, fun _ => rfl⟩
  refine seqE ?_
  refine seqE ?_
  refine seqE ?_
  refine brD hg (fun hg h1 => ?_) (fun hg h1 => ?_)
  · refine seqE ?_
    exact leafB hown hg
  · refine seqE ?_
    refine seqE ?_
    refine brD hg (fun hg h2 => ?_) (fun hg h2 => ?_)
    · refine seqE ?_
      refine .inr ⟨0, _, _, _, c_spec_l1Byte p0 (by first | (((try dsimp only); repeat' first | exact hs | exact hs.1 | exact hI1.1 | exact x1.h.1 | apply ok_l1Byte | apply ok_l1Below | apply ok_l1Once | apply ok_l1Int | apply ok_l1Str | apply ok_l2One | apply ok_l2Draw | apply ok_l3Draw); done) | (refine ⟨?_, by simp, by simp⟩; ((try dsimp only); repeat' first | exact hs | exact hs.1 | exact hI1.1 | exact x1.h.1 | apply ok_l1Byte | apply ok_l1Below | apply ok_l1Once | apply ok_l1Int | apply ok_l1Str | apply ok_l2One | apply ok_l2Draw | apply ok_l3Draw))), (FzAs.same _), ?_⟩
      refine litE (m := 2) rfl ?_
      refine andE (by (first | omega | (simp (disch := omega) only [wrap_small, mid_eq, List.length_map]; omega) | (simp; done) | (simp; omega) | (simp at *; omega) | (simp at *; done) | (simp_all; done) | (simp_all; omega))) ?_
      exact leafB hown hg
    · refine seqE ?_
      refine .inr ⟨0, _, _, _, c_spec_l1Byte p0 (by first | (((try dsimp only); repeat' first | exact hs | exact hs.1 | exact hI1.1 | exact x1.h.1 | apply ok_l1Byte | apply ok_l1Below | apply ok_l1Once | apply ok_l1Int | apply ok_l1Str | apply ok_l2One | apply ok_l2Draw | apply ok_l3Draw); done) | (refine ⟨?_, by simp, by simp⟩; ((try dsimp only); repeat' first | exact hs | exact hs.1 | exact hI1.1 | exact x1.h.1 | apply ok_l1Byte | apply ok_l1Below | apply ok_l1Once | apply ok_l1Int | apply ok_l1Str | apply ok_l2One | apply ok_l2Draw | apply ok_l3Draw))), (FzAs.same _), ?_⟩
      refine litE (m := 2) rfl ?_
      refine seqE ?_
      refine .inr ⟨0, _, _, _, c_spec_l1Byte (spec_l1Byte p0).2 (by first | (((try dsimp only); repeat' first | exact hs | exact hs.1 | exact hI1.1 | exact x1.h.1 | apply ok_l1Byte | apply ok_l1Below | apply ok_l1Once | apply ok_l1Int | apply ok_l1Str | apply ok_l2One | apply ok_l2Draw | apply ok_l3Draw); done) | (refine ⟨?_, by simp, by simp⟩; ((try dsimp only); repeat' first | exact hs | exact hs.1 | exact hI1.1 | exact x1.h.1 | apply ok_l1Byte | apply ok_l1Below | apply ok_l1Once | apply ok_l1Int | apply ok_l1Str | apply ok_l2One | apply ok_l2Draw | apply ok_l3Draw))), (FzAs.same _), ?_⟩
      refine litE (m := 3) rfl ?_
      refine seqE ?_
      refine .inr ⟨0, _, _, _, c_spec_l1Byte (spec_l1Byte (spec_l1Byte p0).2).2 (by first | (((try dsimp only); repeat' first | exact hs | exact hs.1 | exact hI1.1 | exact x1.h.1 | apply ok_l1Byte | apply ok_l1Below | apply ok_l1Once | apply ok_l1Int | apply ok_l1Str | apply ok_l2One | apply ok_l2Draw | apply ok_l3Draw); done) | (refine ⟨?_, by simp, by simp⟩; ((try dsimp only); repeat' first | exact hs | exact hs.1 | exact hI1.1 | exact x1.h.1 | apply ok_l1Byte | apply ok_l1Below | apply ok_l1Once | apply ok_l1Int | apply ok_l1Str | apply ok_l2One | apply ok_l2Draw | apply ok_l3Draw))), (FzAs.same _), ?_⟩
      refine litE (m := 4) rfl ?_
      refine seqE ?_
      refine andE (by (first | omega | (simp (disch := omega) only [wrap_small, mid_eq, List.length_map]; omega) | (simp; done) | (simp; omega) | (simp at *; omega) | (simp at *; done) | (simp_all; done) | (simp_all; omega))) ?_
      exact leafB hown hg
theorem ok_l1Below {c : Cur} {n : Int} (h : CurOk c) : CurOk (spec_l1Below c n).2 := by
  unfold spec_l1Below
  cases decide (n ≤ 0)
  · cases decide (n ≤ 256)
    · exact ok_l1Byte (ok_l1Byte (ok_l1Byte h))
    · exact ok_l1Byte h
  · exact h
theorem bd_l1Below (c : Cur) {n : Int} (h0 : 0 < n) (h1 : n ≤ 9223372036854775807) : 0 ≤ (spec_l1Below c n).1 ∧ (spec_l1Below c n).1 < n := by
  unfold spec_l1Below
  rw [decide_eq_false (show ¬ n ≤ 0 by omega), cond_false]
  have tm : ∀ x : Int, 0 ≤ x → 0 ≤ Int.tmod x n ∧ Int.tmod x n < n := fun x hx => ⟨Int.tmod_nonneg n hx, Int.tmod_lt_of_pos x h0⟩
  have b1 := bd_l1Byte c
  cases decide (n ≤ 256)
  · refine tm _ ?_
    have b2 := bd_l1Byte (spec_l1Byte c).2
    have b3 := bd_l1Byte (spec_l1Byte (spec_l1Byte c).2).2
    simp (disch := omega) only [wrap_small]
    omega
  · exact tm _ b1.1
def spec_l1Once (p0 : Cur) (p1 : Int) : (Bool × Cur) :=
  (((spec_l1Below p0 p1).1 == 0), (spec_l1Below p0 p1).2)
theorem c_spec_l1Once (p0 : Cur) (p1 : Int) (hs : CurOk p0) : FnOk prog 95 [.tup [.one (.b ((Cur.cells false) p0))], .one (.v (.int .i64 p1))] ⟨.one (.v (.bool (spec_l1Once p0 p1).1)), [.one (.b ((Cur.cells false) ((spec_l1Once p0 p1).2)))], [], false⟩ := by
  refine FnOk.introB (E := env) envOk wide func95 rfl (by kernel_rfl) rfl ?_
  have hg := spec_l1Once.eq_1 p0 p1
  have hown : ((∀ g : (Bool × Cur), AV.Own (AV.one (.v (.bool g.1)))) ∧ (fun g : (Bool × Cur) => (Cur.cells false) (g.2)) = _) ∧ ∀ g : (Bool × Cur), List.all ((Cur.cells false) (g.2)) T.flatB = true := ⟨⟨fun g => .v _, rfl⟩, fun _ => rfl⟩
  refine seqE ?_
  refine seqE ?_
  refine .inr ⟨0, _, _, _, c_spec_l1Below p0 p1 (by first | (((try dsimp only); repeat' first | exact hs | exact hs.1 | exact hI1.1 | exact x1.h.1 | apply ok_l1Byte | apply ok_l1Below | apply ok_l1Once | apply ok_l1Int | apply ok_l1Str | apply ok_l2One | apply ok_l2Draw | apply ok_l3Draw); done) | (refine ⟨?_, by simp, by simp⟩; ((try dsimp only); repeat' first | exact hs | exact hs.1 | exact hI1.1 | exact x1.h.1 | apply ok_l1Byte | apply ok_l1Below | apply ok_l1Once | apply ok_l1Int | apply ok_l1Str | apply ok_l2One | apply ok_l2Draw | apply ok_l3Draw))), (FzAs.same _), ?_⟩
  refine litE (m := 2) rfl ?_
  exact leafB hown hg
theorem ok_l1Once {c : Cur} {n : Int} (h : CurOk c) : CurOk (spec_l1Once c n).2 := ok_l1Below h
def spec_l1Int (p0 : Cur) (p1 : (List Int)) : (Int × Cur) :=
  ((p1[((spec_l1Below p0 (((p1).length : Nat) : Int)).1).toNat]?.getD default), (spec_l1Below p0 (((p1).length : Nat) : Int)).2)
theorem c_spec_l1Int (p0 : Cur) (p1 : (List Int)) (hs : CurOk p0 ∧ 0 < p1.length ∧ p1.length ≤ 256) : FnOk prog 139 [.tup [.one (.b ((Cur.cells false) p0))], .one (.s false 1 (List.map cInt p1))] ⟨.one (.v (.int .i64 (spec_l1Int p0 p1).1)), [.one (.b ((Cur.cells false) ((spec_l1Int p0 p1).2)))], [], false⟩ := by
  refine FnOk.introB (E := env) envOk wide func139 rfl (by kernel_rfl) rfl ?_
  have hg := spec_l1Int.eq_1 p0 p1
  have hown : ((∀ g : (Int × Cur), AV.Own (AV.one (.v (.int .i64 g.1)))) ∧ (fun g : (Int × Cur) => (Cur.cells false) (g.2)) = _) ∧ ∀ g : (Int × Cur), List.all ((Cur.cells false) (g.2)) T.flatB = true := ⟨⟨fun g => .v _, rfl⟩, fun _ => rfl⟩
  refine seqE ?_
  refine seqE ?_
  refine lenM fun hN1 => ?_
  refine .inr ⟨0, _, _, _, c_spec_l1Below p0 (((p1).length : Nat) : Int) (by first | (((try dsimp only); repeat' first | exact hs | exact hs.1 | exact hI1.1 | exact x1.h.1 | apply ok_l1Byte | apply ok_l1Below | apply ok_l1Once | apply ok_l1Int | apply ok_l1Str | apply ok_l2One | apply ok_l2Draw | apply ok_l3Draw); done) | (refine ⟨?_, by simp, by simp⟩; ((try dsimp only); repeat' first | exact hs | exact hs.1 | exact hI1.1 | exact x1.h.1 | apply ok_l1Byte | apply ok_l1Below | apply ok_l1Once | apply ok_l1Int | apply ok_l1Str | apply ok_l2One | apply ok_l2Draw | apply ok_l3Draw))), (FzAs.same _), ?_⟩
  refine litE (m := 2) rfl ?_
  refine idxOf (l := p1) (by have q := bd_l1Below p0 (n := ((p1.length : Nat) : Int)) (by have := hs.2.1; omega) (by have := hs.2.2; omega); omega) (fun hq2 => ?_)
  exact leafB hown hg
theorem ok_l1Int {c : Cur} {l : List Int} (h : CurOk c) : CurOk (spec_l1Int c l).2 := ok_l1Below h
def spec_l1Str (p0 : Cur) (p1 : (List ByteArray)) : (ByteArray × Cur) :=
  ((p1[((spec_l1Below p0 (((p1).length : Nat) : Int)).1).toNat]?.getD default), (spec_l1Below p0 (((p1).length : Nat) : Int)).2)
theorem c_spec_l1Str (p0 : Cur) (p1 : (List ByteArray)) (hs : CurOk p0 ∧ 0 < p1.length ∧ p1.length ≤ 256) : FnOk prog 174 [.tup [.one (.b ((Cur.cells false) p0))], .one (.s false 1 (List.map cStr p1))] ⟨.one (.v (.string (spec_l1Str p0 p1).1)), [.one (.b ((Cur.cells false) ((spec_l1Str p0 p1).2)))], [], false⟩ := by
  refine FnOk.introB (E := env) envOk wide func174 rfl (by kernel_rfl) rfl ?_
  have hg := spec_l1Str.eq_1 p0 p1
  have hown : ((∀ g : (ByteArray × Cur), AV.Own (AV.one (.v (.string g.1)))) ∧ (fun g : (ByteArray × Cur) => (Cur.cells false) (g.2)) = _) ∧ ∀ g : (ByteArray × Cur), List.all ((Cur.cells false) (g.2)) T.flatB = true := ⟨⟨fun g => .v _, rfl⟩, fun _ => rfl⟩
  refine seqE ?_
  refine seqE ?_
  refine lenM fun hN1 => ?_
  refine .inr ⟨0, _, _, _, c_spec_l1Below p0 (((p1).length : Nat) : Int) (by first | (((try dsimp only); repeat' first | exact hs | exact hs.1 | exact hI1.1 | exact x1.h.1 | apply ok_l1Byte | apply ok_l1Below | apply ok_l1Once | apply ok_l1Int | apply ok_l1Str | apply ok_l2One | apply ok_l2Draw | apply ok_l3Draw); done) | (refine ⟨?_, by simp, by simp⟩; ((try dsimp only); repeat' first | exact hs | exact hs.1 | exact hI1.1 | exact x1.h.1 | apply ok_l1Byte | apply ok_l1Below | apply ok_l1Once | apply ok_l1Int | apply ok_l1Str | apply ok_l2One | apply ok_l2Draw | apply ok_l3Draw))), (FzAs.same _), ?_⟩
  refine litE (m := 2) rfl ?_
  refine idxOf (l := p1) (by have q := bd_l1Below p0 (n := ((p1.length : Nat) : Int)) (by have := hs.2.1; omega) (by have := hs.2.2; omega); omega) (fun hq2 => ?_)
  exact leafB hown hg
theorem ok_l1Str {c : Cur} {l : List ByteArray} (h : CurOk c) : CurOk (spec_l1Str c l).2 := ok_l1Below h
def spec_l2One (p0 : Cur) (p1 : ByteArray) : (Attr × Cur) :=
  (bif (spec_l1Once p0 2).1 then ((Attr.mk p1 true (spec_l1Int (spec_l1Once p0 2).2 [0, 1, 5, 200, 500]).1 (ByteArray.mk #[])), (spec_l1Int (spec_l1Once p0 2).2 [0, 1, 5, 200, 500]).2) else ((Attr.mk p1 false 0 (spec_l1Str (spec_l1Once p0 2).2 [(ByteArray.mk #[97]), (ByteArray.mk #[98]), (ByteArray.mk #[111, 107]), (ByteArray.mk #[])]).1), (spec_l1Str (spec_l1Once p0 2).2 [(ByteArray.mk #[97]), (ByteArray.mk #[98]), (ByteArray.mk #[111, 107]), (ByteArray.mk #[])]).2))
theorem c_spec_l2One (p0 : Cur) (p1 : ByteArray) (hs : CurOk p0) : FnOk prog 161 [.tup [.one (.b ((Cur.cells false) p0))], .one (.v (.string p1))] ⟨.agg (Attr.cells (spec_l2One p0 p1).1), [.one (.b ((Cur.cells false) ((spec_l2One p0 p1).2)))], [], false⟩ := by
  refine FnOk.introB (E := env) envOk wide func161 rfl (by kernel_rfl) rfl ?_
  have hg := spec_l2One.eq_1 p0 p1
  have hown : ((∀ g : (Attr × Cur), AV.Own (AV.agg (Attr.cells g.1))) ∧ (fun g : (Attr × Cur) => (Cur.cells false) (g.2)) = _) ∧ ∀ g : (Attr × Cur), List.all ((Cur.cells false) (g.2)) T.flatB = true := ⟨⟨fun g => own_Attr _, rfl⟩, fun _ => rfl⟩
  refine seqE ?_
  refine litE (m := 1) rfl ?_
  refine seqE ?_
  refine seqE ?_
  refine .inr ⟨0, _, _, _, c_spec_l1Once p0 2 (by first | (((try dsimp only); repeat' first | exact hs | exact hs.1 | exact hI1.1 | exact x1.h.1 | apply ok_l1Byte | apply ok_l1Below | apply ok_l1Once | apply ok_l1Int | apply ok_l1Str | apply ok_l2One | apply ok_l2Draw | apply ok_l3Draw); done) | (refine ⟨?_, by simp, by simp⟩; ((try dsimp only); repeat' first | exact hs | exact hs.1 | exact hI1.1 | exact x1.h.1 | apply ok_l1Byte | apply ok_l1Below | apply ok_l1Once | apply ok_l1Int | apply ok_l1Str | apply ok_l2One | apply ok_l2Draw | apply ok_l3Draw))), (FzAs.same _), ?_⟩
  refine litE (m := 3) rfl ?_
  refine brE hg (fun hg h1 => ?_) (fun hg h1 => ?_)
  · refine seqE ?_
    refine .inr ?_
    refine .inr ⟨0, _, _, _, c_spec_l1Int (spec_l1Once p0 2).2 [0, 1, 5, 200, 500] (by first | (((try dsimp only); repeat' first | exact hs | exact hs.1 | exact hI1.1 | exact x1.h.1 | apply ok_l1Byte | apply ok_l1Below | apply ok_l1Once | apply ok_l1Int | apply ok_l1Str | apply ok_l2One | apply ok_l2Draw | apply ok_l3Draw); done) | (refine ⟨?_, by simp, by simp⟩; ((try dsimp only); repeat' first | exact hs | exact hs.1 | exact hI1.1 | exact x1.h.1 | apply ok_l1Byte | apply ok_l1Below | apply ok_l1Once | apply ok_l1Int | apply ok_l1Str | apply ok_l2One | apply ok_l2Draw | apply ok_l3Draw))), (FzAs.same _), ?_⟩
    refine litE (m := 4) rfl ?_
    exact leafB hown hg
  · refine seqE ?_
    refine .inr ?_
    refine .inr ⟨0, _, _, _, c_spec_l1Str (spec_l1Once p0 2).2 [(ByteArray.mk #[97]), (ByteArray.mk #[98]), (ByteArray.mk #[111, 107]), (ByteArray.mk #[])] (by first | (((try dsimp only); repeat' first | exact hs | exact hs.1 | exact hI1.1 | exact x1.h.1 | apply ok_l1Byte | apply ok_l1Below | apply ok_l1Once | apply ok_l1Int | apply ok_l1Str | apply ok_l2One | apply ok_l2Draw | apply ok_l3Draw); done) | (refine ⟨?_, by simp, by simp⟩; ((try dsimp only); repeat' first | exact hs | exact hs.1 | exact hI1.1 | exact x1.h.1 | apply ok_l1Byte | apply ok_l1Below | apply ok_l1Once | apply ok_l1Int | apply ok_l1Str | apply ok_l2One | apply ok_l2Draw | apply ok_l3Draw))), (FzAs.same _), ?_⟩
    refine litE (m := 4) rfl ?_
    exact leafB hown hg
theorem ok_l2One {c : Cur} {k : ByteArray} (h : CurOk c) : CurOk (spec_l2One c k).2 := by
  unfold spec_l2One
  cases (spec_l1Once c 2).1
  · exact ok_l1Str (ok_l1Once h)
  · exact ok_l1Int (ok_l1Once h)
def spec_l2Draw_b1 (i1 : Nat) (s1 : (List Int) × Int × Int × (List Attr)) : Step ((List Int) × Int × Int × (List Attr)) ((List Attr) × Cur) :=
  (bif (spec_l1Once (Cur.mk s1.1 s1.2.1 s1.2.2.1) 4).1 then (.next ((spec_l2One (spec_l1Once (Cur.mk s1.1 s1.2.1 s1.2.2.1) 4).2 ([(ByteArray.mk #[99, 111, 100, 101]), (ByteArray.mk #[102, 97, 105, 108, 101, 100]), (ByteArray.mk #[107]), (ByteArray.mk #[112, 97, 116, 104]), (ByteArray.mk #[117, 115, 101, 114])][i1]?.getD default)).2.f_b, (spec_l2One (spec_l1Once (Cur.mk s1.1 s1.2.1 s1.2.2.1) 4).2 ([(ByteArray.mk #[99, 111, 100, 101]), (ByteArray.mk #[102, 97, 105, 108, 101, 100]), (ByteArray.mk #[107]), (ByteArray.mk #[112, 97, 116, 104]), (ByteArray.mk #[117, 115, 101, 114])][i1]?.getD default)).2.f_i, (spec_l2One (spec_l1Once (Cur.mk s1.1 s1.2.1 s1.2.2.1) 4).2 ([(ByteArray.mk #[99, 111, 100, 101]), (ByteArray.mk #[102, 97, 105, 108, 101, 100]), (ByteArray.mk #[107]), (ByteArray.mk #[112, 97, 116, 104]), (ByteArray.mk #[117, 115, 101, 114])][i1]?.getD default)).2.f_h, (s1.2.2.2 ++ [(spec_l2One (spec_l1Once (Cur.mk s1.1 s1.2.1 s1.2.2.1) 4).2 ([(ByteArray.mk #[99, 111, 100, 101]), (ByteArray.mk #[102, 97, 105, 108, 101, 100]), (ByteArray.mk #[107]), (ByteArray.mk #[112, 97, 116, 104]), (ByteArray.mk #[117, 115, 101, 114])][i1]?.getD default)).1]))) else (.next ((spec_l1Once (Cur.mk s1.1 s1.2.1 s1.2.2.1) 4).2.f_b, (spec_l1Once (Cur.mk s1.1 s1.2.1 s1.2.2.1) 4).2.f_i, (spec_l1Once (Cur.mk s1.1 s1.2.1 s1.2.2.1) 4).2.f_h, s1.2.2.2)))
def spec_l2Draw (p0 : Cur) : ((List Attr) × Cur) :=
  (Fin.get (fun s1 => (s1.2.2.2, (Cur.mk s1.1 s1.2.1 s1.2.2.1))) (loopC spec_l2Draw_b1 0 (p0.f_b, p0.f_i, p0.f_h, ([] : List Attr)) ((5 : Int)).toNat))
theorem c_spec_l2Draw (p0 : Cur) (hs : CurOk p0) : FnOk prog 138 [.tup [.one (.b ((Cur.cells false) p0))]] ⟨.one (.s true 4 (List.map Attr.cells (spec_l2Draw p0).1)), [.one (.b ((Cur.cells false) ((spec_l2Draw p0).2)))], [], false⟩ := by
  refine FnOk.introB (E := env) envOk wide func138 rfl (by kernel_rfl) rfl ?_
  have hg := spec_l2Draw.eq_1 p0
  have hown : ((∀ g : ((List Attr) × Cur), AV.Own (AV.one (.s true 4 (List.map Attr.cells g.1)))) ∧ (fun g : ((List Attr) × Cur) => (Cur.cells false) (g.2)) = _) ∧ ∀ g : ((List Attr) × Cur), List.all ((Cur.cells false) (g.2)) T.flatB = true := ⟨⟨fun g => ownSl own_Attr _, rfl⟩, fun _ => rfl⟩
  refine seqE ?_
  refine seqE ?_
  refine .inl (litE (m := 1) rfl ?_)
  refine seqE ?_
  refine seqE ?_
  refine .inl (litE (m := 2) rfl ?_)
  refine lenE (k := 5) (by simp) (fun hN1 => ?_)
  refine loopCI (fun (i : Nat) (s : List Int × Int × Int × List Attr) => CurOk (Cur.mk s.1 s.2.1 s.2.2.1) ∧ s.2.2.2.length ≤ i) hg (⟨hs, Nat.zero_le _⟩) [0, 7, 8] (fun x1 => [(3, .one (.n 1 [] 1 0 (x1.s.2.2.2).length)), (9, .one (.v (.int .i64 ((x1.i : Nat) : Int))))]) (fun x1 => [.new ⟨3, true, [[.s false 1 (List.map cU8 x1.s.1), .v (.int .i64 x1.s.2.1), .v (.int .i64 x1.s.2.2.1)]], 0⟩, .new ⟨4, false, List.map Attr.cells x1.s.2.2.2, 0⟩, .keep 2]) [some 0, some 1, some 2] ?_ (fun x1 => ?_)
  · exact ⟨rfl, ⟨⟨rfl, rfl, rfl, rfl, by (first | rfl | omega | (dsimp only; omega) | (simp; done) | (simp; omega) | (simp [LstSt.init, LstSt.step, LstInv.init, CntSt.init, CntSt.step, CntInv.init, WhlSt.init, WhlSt.step]; done) | (simp [LstSt.init, LstSt.step, LstInv.init, CntSt.init, CntSt.step, CntInv.init, WhlSt.init, WhlSt.step]; omega))⟩, rfl, ⟨rfl, rfl, rfl, rfl⟩, ⟨rfl, rfl, rfl, rfl, by (first | rfl | omega | (dsimp only; omega) | (simp; done) | (simp; omega) | (simp [LstSt.init, LstSt.step, LstInv.init, CntSt.init, CntSt.step, CntInv.init, WhlSt.init, WhlSt.step]; done) | (simp [LstSt.init, LstSt.step, LstInv.init, CntSt.init, CntSt.step, CntInv.init, WhlSt.init, WhlSt.step]; omega))⟩, rfl, trivial⟩, ⟨⟨rfl, rfl, ⟨rfl, rfl, rfl, trivial⟩⟩, ⟨rfl, rfl, rfl⟩, ⟨rfl, rfl, rfl⟩, trivial⟩, ⟨⟨rfl, rfl, rfl, rfl⟩, trivial⟩⟩
  have hI1 := x1.hI
  try dsimp only at hI1
  refine seqE ?_
  refine seqE ?_
  refine tstC (fun hi1 => ?_) (fun hi1 => ?_)
  · have hb1 := (x1.bdy hi1).trans (spec_l2Draw_b1.eq_1 ..)
    have hw1 := wrapC hi1
    refine seqE ?_
    refine seqE ?_
    refine andE (by (first | omega | (simp (disch := omega) only [wrap_small, mid_eq, List.length_map]; omega) | (simp; done) | (simp; omega) | (simp at *; omega) | (simp at *; done) | (simp_all; done) | (simp_all; omega))) ?_
    refine rowGet (enc := cStr) (i := x1.i) (l := [(ByteArray.mk #[99, 111, 100, 101]), (ByteArray.mk #[102, 97, 105, 108, 101, 100]), (ByteArray.mk #[107]), (ByteArray.mk #[112, 97, 116, 104]), (ByteArray.mk #[117, 115, 101, 114])]) (by first | rfl | exact Nat.zero_add _ | simp) (fun hq2 => ?_)
    refine seqE ?_
    refine .inr ⟨0, _, _, _, c_spec_l1Once (Cur.mk x1.s.1 x1.s.2.1 x1.s.2.2.1) 4 (by first | (((try dsimp only); repeat' first | exact hs | exact hs.1 | exact hI1.1 | exact x1.h.1 | apply ok_l1Byte | apply ok_l1Below | apply ok_l1Once | apply ok_l1Int | apply ok_l1Str | apply ok_l2One | apply ok_l2Draw | apply ok_l3Draw); done) | (refine ⟨?_, by simp, by simp⟩; ((try dsimp only); repeat' first | exact hs | exact hs.1 | exact hI1.1 | exact x1.h.1 | apply ok_l1Byte | apply ok_l1Below | apply ok_l1Once | apply ok_l1Int | apply ok_l1Str | apply ok_l2One | apply ok_l2Draw | apply ok_l3Draw))), (FzAs.same _), ?_⟩
    refine litE (m := 4) rfl ?_
    refine brE hb1 (fun hb1 h3 => ?_) (fun hb1 h3 => x1.goE hi1 hb1 (by refine ⟨by ((try dsimp only); repeat' first | exact hs | exact hs.1 | exact hI1.1 | exact x1.h.1 | apply ok_l1Byte | apply ok_l1Below | apply ok_l1Once | apply ok_l1Int | apply ok_l1Str | apply ok_l2One | apply ok_l2Draw | apply ok_l3Draw), ?_⟩; (have q1 := hI1.2; (try simp only [List.length_map, List.length_append, List.length_cons, List.length_nil, List.length_take, List.length_drop]); omega)) [some 0, some 1, some 2] ⟨rfl, ⟨⟨rfl, rfl, rfl, rfl, by (first | rfl | omega | (dsimp only; omega) | (simp; done) | (simp; omega) | (simp [LstSt.init, LstSt.step, LstInv.init, CntSt.init, CntSt.step, CntInv.init, WhlSt.init, WhlSt.step]; done) | (simp [LstSt.init, LstSt.step, LstInv.init, CntSt.init, CntSt.step, CntInv.init, WhlSt.init, WhlSt.step]; omega))⟩, (eqInt hw1), ⟨rfl, rfl, rfl, rfl⟩, ⟨rfl, rfl, rfl, rfl, by (first | rfl | omega | (dsimp only; omega) | (simp; done) | (simp; omega) | (simp [LstSt.init, LstSt.step, LstInv.init, CntSt.init, CntSt.step, CntInv.init, WhlSt.init, WhlSt.step]; done) | (simp [LstSt.init, LstSt.step, LstInv.init, CntSt.init, CntSt.step, CntInv.init, WhlSt.init, WhlSt.step]; omega))⟩, rfl, trivial⟩, ⟨⟨rfl, rfl, ⟨rfl, rfl, rfl, trivial⟩⟩, ⟨rfl, rfl, rfl⟩, ⟨rfl, rfl, rfl⟩, trivial⟩, ⟨⟨rfl, rfl, rfl, rfl⟩, trivial⟩⟩)
    refine .inr ⟨0, _, _, _, c_spec_l2One (spec_l1Once (Cur.mk x1.s.1 x1.s.2.1 x1.s.2.2.1) 4).2 ([(ByteArray.mk #[99, 111, 100, 101]), (ByteArray.mk #[102, 97, 105, 108, 101, 100]), (ByteArray.mk #[107]), (ByteArray.mk #[112, 97, 116, 104]), (ByteArray.mk #[117, 115, 101, 114])][x1.i]?.getD default) (by first | (((try dsimp only); repeat' first | exact hs | exact hs.1 | exact hI1.1 | exact x1.h.1 | apply ok_l1Byte | apply ok_l1Below | apply ok_l1Once | apply ok_l1Int | apply ok_l1Str | apply ok_l2One | apply ok_l2Draw | apply ok_l3Draw); done) | (refine ⟨?_, by simp, by simp⟩; ((try dsimp only); repeat' first | exact hs | exact hs.1 | exact hI1.1 | exact x1.h.1 | apply ok_l1Byte | apply ok_l1Below | apply ok_l1Once | apply ok_l1Int | apply ok_l1Str | apply ok_l2One | apply ok_l2Draw | apply ok_l3Draw))), (FzAs.same _), ?_⟩
    refine litE (m := 5) rfl ?_
    refine .inl (litE (m := 5) rfl ?_)
    refine .inl ?_
    refine rowsE (Y := List.map Attr.cells (x1.s.2.2.2 ++ [(spec_l2One (spec_l1Once (Cur.mk x1.s.1 x1.s.2.1 x1.s.2.2.1) 4).2 ([(ByteArray.mk #[99, 111, 100, 101]), (ByteArray.mk #[102, 97, 105, 108, 101, 100]), (ByteArray.mk #[107]), (ByteArray.mk #[112, 97, 116, 104]), (ByteArray.mk #[117, 115, 101, 114])][x1.i]?.getD default)).1])) (by first | rfl | (simp [subR0, subR1, -List.map_take, -List.map_drop, take_map', drop_map', fz_Attr, fl_Attr, fzMap fz_Attr, flMap fl_Attr]; done) | (simp [subR0, subR1, -List.map_take, -List.map_drop, take_map', drop_map', fz_Attr, fl_Attr, fzMap fz_Attr, flMap fl_Attr]; rfl)) ?_
    refine appB (b := 48) (hs := by have q1 := hI1.2; have q2 := hi1; refine ⟨?_, ?_⟩; (show List.length _ * 48 ≤ _); (try simp only [List.length_map, List.length_append, List.length_cons, List.length_nil, List.length_take, List.length_drop]); omega; (try simp only [List.length_map, List.length_append, List.length_cons, List.length_nil, List.length_take, List.length_drop]); omega) ?_
    refine litE (m := 6) rfl ?_
    exact x1.goE hi1 hb1 (by refine ⟨by ((try dsimp only); repeat' first | exact hs | exact hs.1 | exact hI1.1 | exact x1.h.1 | apply ok_l1Byte | apply ok_l1Below | apply ok_l1Once | apply ok_l1Int | apply ok_l1Str | apply ok_l2One | apply ok_l2Draw | apply ok_l3Draw), ?_⟩; (have q1 := hI1.2; (try simp only [List.length_map, List.length_append, List.length_cons, List.length_nil, List.length_take, List.length_drop]); omega)) [some 0, some 6, some 2] ⟨rfl, ⟨⟨rfl, rfl, rfl, rfl, by (first | rfl | omega | (dsimp only; omega) | (simp; done) | (simp; omega) | (simp [LstSt.init, LstSt.step, LstInv.init, CntSt.init, CntSt.step, CntInv.init, WhlSt.init, WhlSt.step]; done) | (simp [LstSt.init, LstSt.step, LstInv.init, CntSt.init, CntSt.step, CntInv.init, WhlSt.init, WhlSt.step]; omega))⟩, (eqInt hw1), ⟨rfl, rfl, rfl, rfl⟩, ⟨rfl, rfl, rfl, rfl, by (first | rfl | omega | (dsimp only; omega) | (simp; done) | (simp; omega) | (simp [LstSt.init, LstSt.step, LstInv.init, CntSt.init, CntSt.step, CntInv.init, WhlSt.init, WhlSt.step]; done) | (simp [LstSt.init, LstSt.step, LstInv.init, CntSt.init, CntSt.step, CntInv.init, WhlSt.init, WhlSt.step]; omega))⟩, rfl, trivial⟩, ⟨⟨rfl, rfl, ⟨rfl, rfl, rfl, trivial⟩⟩, ⟨rfl, rfl, rfl⟩, ⟨rfl, rfl, rfl⟩, trivial⟩, ⟨⟨rfl, rfl, rfl, rfl⟩, trivial⟩⟩
  have hg := finE hg (x1.fin hi1)
  refine seqE ?_
  exact leafB hown hg
theorem l2Draw_run {c : Cur} (h : CurOk c) : ∃ v, loopC spec_l2Draw_b1 0 (c.f_b, c.f_i, c.f_h, ([] : List Attr)) 5 = .fin v ∧ (CurOk (Cur.mk v.1 v.2.1 v.2.2.1) ∧ v.2.2.2.length ≤ 0 + 5) :=
  loopC_run (P := fun i (s : List Int × Int × Int × List Attr) => CurOk (Cur.mk s.1 s.2.1 s.2.2.1) ∧ s.2.2.2.length ≤ i) (fun i s hs => by
    unfold spec_l2Draw_b1
    cases (spec_l1Once (Cur.mk s.1 s.2.1 s.2.2.1) 4).1
    · exact ⟨_, rfl, ok_l1Once (n := 4) hs.1, by have := hs.2; show s.2.2.2.length ≤ i + 1; omega⟩
    · exact ⟨_, rfl, ok_l2One (ok_l1Once hs.1), by have := hs.2; simp only [List.length_append, List.length_cons, List.length_nil]; omega⟩) 5 0 _ ⟨h, Nat.zero_le _⟩
theorem l2Draw_ok {c : Cur} (h : CurOk c) : CurOk (spec_l2Draw c).2 ∧ (spec_l2Draw c).1.length ≤ 5 := by
  obtain ⟨v, e, h1, h2⟩ := l2Draw_run h
  unfold spec_l2Draw
  rw [show ((5 : Int)).toNat = 5 from rfl, e]
  exact ⟨h1, h2⟩
theorem ok_l2Draw {c : Cur} (h : CurOk c) : CurOk (spec_l2Draw c).2 := (l2Draw_ok h).1
def spec_l3Draw (p0 : Cur) : (Span × Cur) :=
  ((Span.mk (IntKind.i64.wrap (1 + (spec_l1Below p0 5).1)) (IntKind.i64.wrap (1 + (spec_l1Below (spec_l1Below p0 5).2 9).1)) (spec_l1Below (spec_l1Below (spec_l1Below p0 5).2 9).2 9).1 (IntKind.i64.wrap ((spec_l1Below (spec_l1Below (spec_l1Below p0 5).2 9).2 9).1 + (spec_l1Int (spec_l2Draw (spec_l1Once (spec_l1Below (spec_l1Below (spec_l1Below p0 5).2 9).2 9).2 4).2).2 [0, 1, 5, 20]).1)) (spec_l1Once (spec_l1Below (spec_l1Below (spec_l1Below p0 5).2 9).2 9).2 4).1 (spec_l2Draw (spec_l1Once (spec_l1Below (spec_l1Below (spec_l1Below p0 5).2 9).2 9).2 4).2).1), (spec_l1Int (spec_l2Draw (spec_l1Once (spec_l1Below (spec_l1Below (spec_l1Below p0 5).2 9).2 9).2 4).2).2 [0, 1, 5, 20]).2)
theorem c_spec_l3Draw (p0 : Cur) (hs : CurOk p0) : FnOk prog 96 [.tup [.one (.b ((Cur.cells false) p0))]] ⟨.agg ((Span.cells true) (spec_l3Draw p0).1), [.one (.b ((Cur.cells false) ((spec_l3Draw p0).2)))], [], false⟩ := by
  refine FnOk.introB (E := env) envOk wide func96 rfl (by kernel_rfl) rfl ?_
  have hg := spec_l3Draw.eq_1 p0
  have hown : ((∀ g : (Span × Cur), AV.Own (AV.agg ((Span.cells true) g.1))) ∧ (fun g : (Span × Cur) => (Cur.cells false) (g.2)) = _) ∧ ∀ g : (Span × Cur), List.all ((Cur.cells false) (g.2)) T.flatB = true := ⟨⟨fun g => own_Span _, rfl⟩, fun _ => rfl⟩
  refine seqE ?_
  refine litE (m := 1) rfl ?_
  refine seqE ?_
  refine .inr ⟨0, _, _, _, c_spec_l1Below p0 5 (by first | (((try dsimp only); repeat' first | exact hs | exact hs.1 | exact hI1.1 | exact x1.h.1 | apply ok_l1Byte | apply ok_l1Below | apply ok_l1Once | apply ok_l1Int | apply ok_l1Str | apply ok_l2One | apply ok_l2Draw | apply ok_l3Draw); done) | (refine ⟨?_, by simp, by simp⟩; ((try dsimp only); repeat' first | exact hs | exact hs.1 | exact hI1.1 | exact x1.h.1 | apply ok_l1Byte | apply ok_l1Below | apply ok_l1Once | apply ok_l1Int | apply ok_l1Str | apply ok_l2One | apply ok_l2Draw | apply ok_l3Draw))), (FzAs.same _), ?_⟩
  refine litE (m := 3) rfl ?_
  refine .inr ⟨0, _, _, _, c_spec_l1Below (spec_l1Below p0 5).2 9 (by first | (((try dsimp only); repeat' first | exact hs | exact hs.1 | exact hI1.1 | exact x1.h.1 | apply ok_l1Byte | apply ok_l1Below | apply ok_l1Once | apply ok_l1Int | apply ok_l1Str | apply ok_l2One | apply ok_l2Draw | apply ok_l3Draw); done) | (refine ⟨?_, by simp, by simp⟩; ((try dsimp only); repeat' first | exact hs | exact hs.1 | exact hI1.1 | exact x1.h.1 | apply ok_l1Byte | apply ok_l1Below | apply ok_l1Once | apply ok_l1Int | apply ok_l1Str | apply ok_l2One | apply ok_l2Draw | apply ok_l3Draw))), (FzAs.same _), ?_⟩
  refine litE (m := 4) rfl ?_
  refine .inr ⟨0, _, _, _, c_spec_l1Below (spec_l1Below (spec_l1Below p0 5).2 9).2 9 (by first | (((try dsimp only); repeat' first | exact hs | exact hs.1 | exact hI1.1 | exact x1.h.1 | apply ok_l1Byte | apply ok_l1Below | apply ok_l1Once | apply ok_l1Int | apply ok_l1Str | apply ok_l2One | apply ok_l2Draw | apply ok_l3Draw); done) | (refine ⟨?_, by simp, by simp⟩; ((try dsimp only); repeat' first | exact hs | exact hs.1 | exact hI1.1 | exact x1.h.1 | apply ok_l1Byte | apply ok_l1Below | apply ok_l1Once | apply ok_l1Int | apply ok_l1Str | apply ok_l2One | apply ok_l2Draw | apply ok_l3Draw))), (FzAs.same _), ?_⟩
  refine litE (m := 5) rfl ?_
  refine .inr ⟨0, _, _, _, c_spec_l1Once (spec_l1Below (spec_l1Below (spec_l1Below p0 5).2 9).2 9).2 4 (by first | (((try dsimp only); repeat' first | exact hs | exact hs.1 | exact hI1.1 | exact x1.h.1 | apply ok_l1Byte | apply ok_l1Below | apply ok_l1Once | apply ok_l1Int | apply ok_l1Str | apply ok_l2One | apply ok_l2Draw | apply ok_l3Draw); done) | (refine ⟨?_, by simp, by simp⟩; ((try dsimp only); repeat' first | exact hs | exact hs.1 | exact hI1.1 | exact x1.h.1 | apply ok_l1Byte | apply ok_l1Below | apply ok_l1Once | apply ok_l1Int | apply ok_l1Str | apply ok_l2One | apply ok_l2Draw | apply ok_l3Draw))), (FzAs.same _), ?_⟩
  refine litE (m := 6) rfl ?_
  refine .inr ⟨0, _, _, _, c_spec_l2Draw (spec_l1Once (spec_l1Below (spec_l1Below (spec_l1Below p0 5).2 9).2 9).2 4).2 (by first | (((try dsimp only); repeat' first | exact hs | exact hs.1 | exact hI1.1 | exact x1.h.1 | apply ok_l1Byte | apply ok_l1Below | apply ok_l1Once | apply ok_l1Int | apply ok_l1Str | apply ok_l2One | apply ok_l2Draw | apply ok_l3Draw); done) | (refine ⟨?_, by simp, by simp⟩; ((try dsimp only); repeat' first | exact hs | exact hs.1 | exact hI1.1 | exact x1.h.1 | apply ok_l1Byte | apply ok_l1Below | apply ok_l1Once | apply ok_l1Int | apply ok_l1Str | apply ok_l2One | apply ok_l2Draw | apply ok_l3Draw))), (FzAs.same _), ?_⟩
  refine litE (m := 7) rfl ?_
  refine litE (m := 8) rfl ?_
  refine seqE ?_
  refine .inr (.inr (.inr (.inl ⟨(.q 0 (.q 2 (.b 1 (.o 3 (.o 4 (.o 5 (.o 6 (.o 7 .leaf))))) 3 (.b 1 (.o 4 (.o 5 (.o 6 (.o 7 .leaf)))) 4 (.o 1 (.o 5 (.o 6 (.o 7 .leaf)))))))), by kernel_rfl, ?_⟩)))
  refine And.intro ?_ ?_
  · refine .inr ?_
    refine .inr ⟨0, _, _, _, c_spec_l1Int (spec_l2Draw (spec_l1Once (spec_l1Below (spec_l1Below (spec_l1Below p0 5).2 9).2 9).2 4).2).2 [0, 1, 5, 20] (by first | (((try dsimp only); repeat' first | exact hs | exact hs.1 | exact hI1.1 | exact x1.h.1 | apply ok_l1Byte | apply ok_l1Below | apply ok_l1Once | apply ok_l1Int | apply ok_l1Str | apply ok_l2One | apply ok_l2Draw | apply ok_l3Draw); done) | (refine ⟨?_, by simp, by simp⟩; ((try dsimp only); repeat' first | exact hs | exact hs.1 | exact hI1.1 | exact x1.h.1 | apply ok_l1Byte | apply ok_l1Below | apply ok_l1Once | apply ok_l1Int | apply ok_l1Str | apply ok_l2One | apply ok_l2Draw | apply ok_l3Draw))), (FzAs.same _), ?_⟩
    refine litE (m := 10) rfl ?_
    refine seqE ?_
    exact leafB hown hg
  refine .inr ?_
  refine And.intro ?_ ?_
  · refine .inr ⟨0, _, _, _, c_spec_l1Int (spec_l2Draw (spec_l1Once (spec_l1Below (spec_l1Below (spec_l1Below p0 5).2 9).2 9).2 4).2).2 [0, 1, 5, 20] (by first | (((try dsimp only); repeat' first | exact hs | exact hs.1 | exact hI1.1 | exact x1.h.1 | apply ok_l1Byte | apply ok_l1Below | apply ok_l1Once | apply ok_l1Int | apply ok_l1Str | apply ok_l2One | apply ok_l2Draw | apply ok_l3Draw); done) | (refine ⟨?_, by simp, by simp⟩; ((try dsimp only); repeat' first | exact hs | exact hs.1 | exact hI1.1 | exact x1.h.1 | apply ok_l1Byte | apply ok_l1Below | apply ok_l1Once | apply ok_l1Int | apply ok_l1Str | apply ok_l2One | apply ok_l2Draw | apply ok_l3Draw))), (FzAs.same _), ?_⟩
    refine litE (m := 10) rfl ?_
    refine seqE ?_
    exact leafB hown hg
  refine .inr ⟨0, _, _, _, c_spec_l1Int (spec_l2Draw (spec_l1Once (spec_l1Below (spec_l1Below (spec_l1Below p0 5).2 9).2 9).2 4).2).2 [0, 1, 5, 20] (by first | (((try dsimp only); repeat' first | exact hs | exact hs.1 | exact hI1.1 | exact x1.h.1 | apply ok_l1Byte | apply ok_l1Below | apply ok_l1Once | apply ok_l1Int | apply ok_l1Str | apply ok_l2One | apply ok_l2Draw | apply ok_l3Draw); done) | (refine ⟨?_, by simp, by simp⟩; ((try dsimp only); repeat' first | exact hs | exact hs.1 | exact hI1.1 | exact x1.h.1 | apply ok_l1Byte | apply ok_l1Below | apply ok_l1Once | apply ok_l1Int | apply ok_l1Str | apply ok_l2One | apply ok_l2Draw | apply ok_l3Draw))), (FzAs.same _), ?_⟩
  refine litE (m := 10) rfl ?_
  refine seqE ?_
  exact leafB hown hg
theorem ok_l3Draw {c : Cur} (h : CurOk c) : CurOk (spec_l3Draw c).2 := by
  unfold spec_l3Draw
  exact ok_l1Int (ok_l2Draw (ok_l1Once (ok_l1Below (ok_l1Below (ok_l1Below h)))))
theorem l3Draw_at {c : Cur} (h : CurOk c) : (spec_l3Draw c).1.Attrs.length ≤ 5 := (l2Draw_ok (ok_l1Once (ok_l1Below (ok_l1Below (ok_l1Below h))))).2
def spec_l3List_b1 (s1 : (List Int) × Int × Int × (List Span) × Int) : Step ((List Int) × Int × Int × (List Span) × Int) ((List Span) × Cur) :=
  (bif (decide (s1.2.2.2.2 > 0)) then (.next ((spec_l3Draw (Cur.mk s1.1 s1.2.1 s1.2.2.1)).2.f_b, (spec_l3Draw (Cur.mk s1.1 s1.2.1 s1.2.2.1)).2.f_i, (spec_l3Draw (Cur.mk s1.1 s1.2.1 s1.2.2.1)).2.f_h, (s1.2.2.2.1 ++ [(spec_l3Draw (Cur.mk s1.1 s1.2.1 s1.2.2.1)).1]), (IntKind.i64.wrap (s1.2.2.2.2 - 1)))) else (.stop (s1.1, s1.2.1, s1.2.2.1, s1.2.2.2.1, s1.2.2.2.2)))
def spec_l3List (p0 : Cur) : ((List Span) × Cur) :=
  (Fin.get (fun s1 => (s1.2.2.2.1, (Cur.mk s1.1 s1.2.1 s1.2.2.1))) (loopW spec_l3List_b1 ((fun s : List Int × Int × Int × List Span × Int => s.2.2.2.2.toNat) ((spec_l1Below p0 5).2.f_b, (spec_l1Below p0 5).2.f_i, (spec_l1Below p0 5).2.f_h, ([] : List Span), (spec_l1Below p0 5).1)) ((spec_l1Below p0 5).2.f_b, (spec_l1Below p0 5).2.f_i, (spec_l1Below p0 5).2.f_h, ([] : List Span), (spec_l1Below p0 5).1)))
theorem c_spec_l3List (p0 : Cur) (hs : CurOk p0) : FnOk prog 92 [.tup [.one (.b ((Cur.cells false) p0))]] ⟨.one (.s true 6 (List.map (Span.cells true) (spec_l3List p0).1)), [.one (.b ((Cur.cells false) ((spec_l3List p0).2)))], [], false⟩ := by
  refine FnOk.introB (E := env) envOk wide func92 rfl (by kernel_rfl) rfl ?_
  have hg := spec_l3List.eq_1 p0
  have hown : ((∀ g : ((List Span) × Cur), AV.Own (AV.one (.s true 6 (List.map (Span.cells true) g.1)))) ∧ (fun g : ((List Span) × Cur) => (Cur.cells false) (g.2)) = _) ∧ ∀ g : ((List Span) × Cur), List.all ((Cur.cells false) (g.2)) T.flatB = true := ⟨⟨fun g => ownSl own_Span _, rfl⟩, fun _ => rfl⟩
  refine seqE ?_
  refine seqE ?_
  refine .inl (litE (m := 1) rfl ?_)
  refine seqE ?_
  refine seqE ?_
  refine .inr ⟨0, _, _, _, c_spec_l1Below p0 5 (by first | (((try dsimp only); repeat' first | exact hs | exact hs.1 | exact hI1.1 | exact x1.h.1 | apply ok_l1Byte | apply ok_l1Below | apply ok_l1Once | apply ok_l1Int | apply ok_l1Str | apply ok_l2One | apply ok_l2Draw | apply ok_l3Draw); done) | (refine ⟨?_, by simp, by simp⟩; ((try dsimp only); repeat' first | exact hs | exact hs.1 | exact hI1.1 | exact x1.h.1 | apply ok_l1Byte | apply ok_l1Below | apply ok_l1Once | apply ok_l1Int | apply ok_l1Str | apply ok_l2One | apply ok_l2Draw | apply ok_l3Draw))), (FzAs.same _), ?_⟩
  refine litE (m := 3) rfl ?_
  refine loopWE (m := (fun s : List Int × Int × Int × List Span × Int => s.2.2.2.2.toNat)) (s0 := ((spec_l1Below p0 5).2.f_b, (spec_l1Below p0 5).2.f_i, (spec_l1Below p0 5).2.f_h, ([] : List Span), (spec_l1Below p0 5).1)) (fun s : List Int × Int × Int × List Span × Int => CurOk (Cur.mk s.1 s.2.1 s.2.2.1) ∧ 0 ≤ s.2.2.2.2 ∧ s.2.2.2.2 ≤ 4 ∧ (s.2.2.2.1.length : Int) + s.2.2.2.2 ≤ 4) hg (by exact ⟨ok_l1Below (c := p0) (n := 5) hs, by have q := bd_l1Below p0 (n := 5) (by omega) (by omega); (try simp only [List.length_nil]); omega⟩) [0] (fun x1 => [(3, .one (.n 1 [] 1 0 (x1.s.2.2.2.1).length)), (4, .one (.v (.int .i64 x1.s.2.2.2.2)))]) (fun x1 => [.new ⟨3, true, [[.s false 1 (List.map cU8 x1.s.1), .v (.int .i64 x1.s.2.1), .v (.int .i64 x1.s.2.2.1)]], 0⟩, .new ⟨6, false, List.map (Span.cells true) x1.s.2.2.2.1, 0⟩, .dead]) [some 0, some 1, none] ?_ (fun x1 => ?_)
  · exact ⟨rfl, ⟨⟨rfl, rfl, rfl, rfl, by (first | rfl | omega | (dsimp only; omega) | (simp; done) | (simp; omega) | (simp [LstSt.init, LstSt.step, LstInv.init, CntSt.init, CntSt.step, CntInv.init, WhlSt.init, WhlSt.step]; done) | (simp [LstSt.init, LstSt.step, LstInv.init, CntSt.init, CntSt.step, CntInv.init, WhlSt.init, WhlSt.step]; omega))⟩, rfl, ⟨rfl, rfl, rfl, rfl⟩, trivial⟩, ⟨⟨rfl, rfl, ⟨rfl, rfl, rfl, trivial⟩⟩, ⟨rfl, rfl, rfl⟩, trivial⟩, ⟨⟨rfl, rfl, rfl, rfl⟩, trivial⟩⟩
  have hI1 := x1.hI
  try dsimp only at hI1
  have hb1 := x1.bdy.trans (spec_l3List_b1.eq_1 ..)
  refine seqE ?_
  refine seqE ?_
  refine brD hb1 (fun hb1 h1 => ?_) (fun hb1 h1 => ?_)
  · refine seqE ?_
    refine seqE ?_
    refine .inr ⟨0, _, _, _, c_spec_l3Draw (Cur.mk x1.s.1 x1.s.2.1 x1.s.2.2.1) (by first | (((try dsimp only); repeat' first | exact hs | exact hs.1 | exact hI1.1 | exact x1.h.1 | apply ok_l1Byte | apply ok_l1Below | apply ok_l1Once | apply ok_l1Int | apply ok_l1Str | apply ok_l2One | apply ok_l2Draw | apply ok_l3Draw); done) | (refine ⟨?_, by simp, by simp⟩; ((try dsimp only); repeat' first | exact hs | exact hs.1 | exact hI1.1 | exact x1.h.1 | apply ok_l1Byte | apply ok_l1Below | apply ok_l1Once | apply ok_l1Int | apply ok_l1Str | apply ok_l2One | apply ok_l2Draw | apply ok_l3Draw))), (FzAs.same _), ?_⟩
    refine litE (m := 4) rfl ?_
    refine litE (m := 5) rfl ?_
    refine .inl (litE (m := 6) rfl ?_)
    refine .inl ?_
    refine rowsE (Y := List.map (Span.cells true) (x1.s.2.2.2.1 ++ [(spec_l3Draw (Cur.mk x1.s.1 x1.s.2.1 x1.s.2.2.1)).1])) (by first | rfl | (simp [subR0, subR1, -List.map_take, -List.map_drop, take_map', drop_map', fz_Span, fzMap fz_Span, shMap sh_Span]; done) | (simp [subR0, subR1, -List.map_take, -List.map_drop, take_map', drop_map', fz_Span, fzMap fz_Span, shMap sh_Span]; rfl)) ?_
    refine appB (b := 64) (hs := by have q1 := x1.h; refine ⟨?_, ?_⟩; (show List.length _ * 64 ≤ _); (try simp only [List.length_map, List.length_append, List.length_cons, List.length_nil, List.length_take, List.length_drop]); omega; (try simp only [List.length_map, List.length_append, List.length_cons, List.length_nil, List.length_take, List.length_drop]); omega) ?_
    refine litE (m := 7) rfl ?_
    exact x1.goE hb1 (show (fun s : List Int × Int × Int × List Span × Int => CurOk (Cur.mk s.1 s.2.1 s.2.2.1) ∧ 0 ≤ s.2.2.2.2 ∧ s.2.2.2.2 ≤ 4 ∧ (s.2.2.2.1.length : Int) + s.2.2.2.2 ≤ 4) ((spec_l3Draw (Cur.mk x1.s.1 x1.s.2.1 x1.s.2.2.1)).2.f_b, (spec_l3Draw (Cur.mk x1.s.1 x1.s.2.1 x1.s.2.2.1)).2.f_i, (spec_l3Draw (Cur.mk x1.s.1 x1.s.2.1 x1.s.2.2.1)).2.f_h, (x1.s.2.2.2.1 ++ [(spec_l3Draw (Cur.mk x1.s.1 x1.s.2.1 x1.s.2.2.1)).1]), (IntKind.i64.wrap (x1.s.2.2.2.2 - 1))) ∧ (fun s : List Int × Int × Int × List Span × Int => s.2.2.2.2.toNat) ((spec_l3Draw (Cur.mk x1.s.1 x1.s.2.1 x1.s.2.2.1)).2.f_b, (spec_l3Draw (Cur.mk x1.s.1 x1.s.2.1 x1.s.2.2.1)).2.f_i, (spec_l3Draw (Cur.mk x1.s.1 x1.s.2.1 x1.s.2.2.1)).2.f_h, (x1.s.2.2.2.1 ++ [(spec_l3Draw (Cur.mk x1.s.1 x1.s.2.1 x1.s.2.2.1)).1]), (IntKind.i64.wrap (x1.s.2.2.2.2 - 1))) < (fun s : List Int × Int × Int × List Span × Int => s.2.2.2.2.toNat) x1.s by have f2 := hI1.2; exact ⟨⟨by ((try dsimp only); repeat' first | exact hs | exact hs.1 | exact hI1.1 | exact x1.h.1 | apply ok_l1Byte | apply ok_l1Below | apply ok_l1Once | apply ok_l1Int | apply ok_l1Str | apply ok_l2One | apply ok_l2Draw | apply ok_l3Draw), by (first | omega | (dsimp only <;> omega) | (simp (disch := omega) only [wrap_small, mid_eq, mid_eq1, mid_eq2, mid_eq3, List.length_map, List.length_set] <;> omega) | (simp (disch := omega) only [wrap_small, mid_eq, mid_eq1, mid_eq2, mid_eq3, List.length_map, List.length_set] at * <;> omega)), by (first | omega | (dsimp only <;> omega) | (simp (disch := omega) only [wrap_small, mid_eq, mid_eq1, mid_eq2, mid_eq3, List.length_map, List.length_set] <;> omega) | (simp (disch := omega) only [wrap_small, mid_eq, mid_eq1, mid_eq2, mid_eq3, List.length_map, List.length_set] at * <;> omega)), by (try simp only [List.length_map, List.length_append, List.length_cons, List.length_nil, List.length_take, List.length_drop]); (first | omega | (dsimp only <;> omega) | (simp (disch := omega) only [wrap_small, mid_eq, mid_eq1, mid_eq2, mid_eq3, List.length_map, List.length_set] <;> omega) | (simp (disch := omega) only [wrap_small, mid_eq, mid_eq1, mid_eq2, mid_eq3, List.length_map, List.length_set] at * <;> omega))⟩, by (first | omega | (dsimp only <;> omega) | (simp (disch := omega) only [wrap_small, mid_eq, mid_eq1, mid_eq2, mid_eq3, List.length_map, List.length_set] <;> omega) | (simp (disch := omega) only [wrap_small, mid_eq, mid_eq1, mid_eq2, mid_eq3, List.length_map, List.length_set] at * <;> omega))⟩) [some 0, some 7, none] ⟨rfl, ⟨⟨rfl, rfl, rfl, rfl, by (first | rfl | omega | (dsimp only; omega) | (simp; done) | (simp; omega) | (simp [LstSt.init, LstSt.step, LstInv.init, CntSt.init, CntSt.step, CntInv.init, WhlSt.init, WhlSt.step]; done) | (simp [LstSt.init, LstSt.step, LstInv.init, CntSt.init, CntSt.step, CntInv.init, WhlSt.init, WhlSt.step]; omega))⟩, rfl, ⟨rfl, rfl, rfl, rfl⟩, trivial⟩, ⟨⟨rfl, rfl, ⟨rfl, rfl, rfl, trivial⟩⟩, ⟨rfl, rfl, rfl⟩, trivial⟩, ⟨⟨rfl, rfl, rfl, rfl⟩, trivial⟩⟩
  · have hg := finE hg (x1.outS hb1)
    refine seqE ?_
    exact leafB hown hg
theorem l3List_ok {c : Cur} (h : CurOk c) : CurOk (spec_l3List c).2 ∧ (spec_l3List c).1.length ≤ 4 ∧ ∀ a ∈ (spec_l3List c).1, a.Attrs.length ≤ 5 := by
  have q := bd_l1Below c (n := 5) (by omega) (by omega)
  unfold spec_l3List
  refine len_fin (P := fun s : List Int × Int × Int × List Span × Int => CurOk (Cur.mk s.1 s.2.1 s.2.2.1) ∧ 0 ≤ s.2.2.2.2 ∧ s.2.2.2.2 ≤ 4 ∧ (s.2.2.2.1.length : Int) + s.2.2.2.2 ≤ 4 ∧ ∀ a ∈ s.2.2.2.1, a.Attrs.length ≤ 5) (Q := fun z : List Span × Cur => CurOk z.2 ∧ z.1.length ≤ 4 ∧ ∀ a ∈ z.1, a.Attrs.length ≤ 5)
    (loopW_ind (P := fun s : List Int × Int × Int × List Span × Int => CurOk (Cur.mk s.1 s.2.1 s.2.2.1) ∧ 0 ≤ s.2.2.2.2 ∧ s.2.2.2.2 ≤ 4 ∧ (s.2.2.2.1.length : Int) + s.2.2.2.2 ≤ 4 ∧ ∀ a ∈ s.2.2.2.1, a.Attrs.length ≤ 5) (fun s hs => ?_) _ _ ⟨ok_l1Below (c := c) (n := 5) h, q.1, by show (spec_l1Below c 5).1 ≤ 4; omega, by show ((0 : Nat) : Int) + (spec_l1Below c 5).1 ≤ 4; omega, fun a ha => (by cases ha)⟩) (fun v hv => ⟨hv.1, by have h1 := hv.2.1; have h2 := hv.2.2.2.1; show v.2.2.2.1.length ≤ 4; omega, hv.2.2.2.2⟩)
  obtain ⟨h1, h2, h3, h4, h5⟩ := hs
  unfold spec_l3List_b1
  by_cases hp : s.2.2.2.2 > 0
  · rw [decide_eq_true hp, cond_true, wrap_small (n := s.2.2.2.2 - 1) (by omega) (by omega)]
    refine nx_step ⟨ok_l3Draw h1, by show 0 ≤ s.2.2.2.2 - 1; omega, by show s.2.2.2.2 - 1 ≤ 4; omega, ?_, fun a ha => ?_⟩
    · show ((s.2.2.2.1 ++ [_]).length : Int) + (s.2.2.2.2 - 1) ≤ 4
      simp only [List.length_append, List.length_cons, List.length_nil]; omega
    · rcases List.mem_append.1 ha with ha | ha
      · exact h5 a ha
      · rw [List.mem_singleton.1 ha]; exact l3Draw_at h1
  · rw [decide_eq_false hp, cond_false]
    exact st_step ⟨h1, h2, h3, h4, h5⟩
theorem ok_l3List {c : Cur} (h : CurOk c) : CurOk (spec_l3List c).2 := (l3List_ok h).1
def laws_big (p0 : (List Int)) : Bool :=
  (decide ((((p0).length : Nat) : Int) > 1048576))
theorem c_laws_big (p0 : (List Int)) : FnOk prog 34 [.one (.s false 1 (List.map cU8 p0))] ⟨.one (.v (.bool (laws_big p0))), [], [], false⟩ := by
  refine FnOk.intro (E := env) envOk wide func34 rfl (by kernel_rfl) rfl rfl ?_
  have hg := laws_big.eq_1 p0
  have hown : ∀ g : Bool, AV.Own (AV.one (.v (.bool g))) := fun g => .v _
  refine seqE ?_
  refine seqE ?_
  refine lenM fun hN1 => ?_
  exact leafE hown hg
theorem bigBd {p0 : List Int} (h : laws_big p0 = false) : p0.length ≤ 1048576 := by
  unfold laws_big at h
  have := of_decide_eq_false h
  omega
def spec_l3Copy (p0 : Span) : Span :=
  p0
theorem c_spec_l3Copy (p0 : Span) (hs : p0.Attrs.length ≤ 1048576) : FnOk prog 122 [.agg ((Span.cells false) p0)] ⟨.agg ((Span.cells true) (spec_l3Copy p0)), [], [], false⟩ := by
  refine FnOk.intro (E := env) envOk wide func122 rfl (by kernel_rfl) rfl rfl ?_
  have hg := spec_l3Copy.eq_1 p0
  have hown : ∀ g : Span, AV.Own (AV.agg ((Span.cells true) g)) := fun g => own_Span _
  refine seqE ?_
  refine litE (m := 0) rfl ?_
  refine litE (m := 1) rfl ?_
  refine seqE ?_
  refine .inl (litE (m := 2) rfl ?_)
  refine .inl ?_
  refine rowsE (Y := List.map Attr.cells p0.Attrs) (by first | rfl | (simp [subR0, subR1, -List.map_take, -List.map_drop, take_map', drop_map', fz_Attr, fl_Attr, fzMap fz_Attr, flMap fl_Attr]; done) | (simp [subR0, subR1, -List.map_take, -List.map_drop, take_map', drop_map', fz_Attr, fl_Attr, fzMap fz_Attr, flMap fl_Attr]; rfl)) ?_
  refine appB (b := 48) (hs := by have hl := hs; refine ⟨?_, ?_⟩; (show List.length _ * 48 ≤ _); (try simp only [List.length_map, List.length_append, List.length_cons, List.length_nil, List.length_take, List.length_drop]); omega; (try simp only [List.length_map, List.length_append, List.length_cons, List.length_nil, List.length_take, List.length_drop]); omega) ?_
  refine litE (m := 3) rfl ?_
  refine seqE ?_
  exact leafE hown hg
def spec_l3All_b1 (i1 : Nat) (s1 : (List Span)) (a1 : Span) : Step ((List Span)) (List Span) :=
  (.next (s1 ++ [(spec_l3Copy a1)]))
def spec_l3All (p0 : (List Span)) : (List Span) :=
  (Fin.get (fun s1 => s1) (loopL spec_l3All_b1 0 ([] : List Span) p0))
theorem c_spec_l3All (p0 : (List Span)) (hs : p0.length ≤ 1048576 ∧ ∀ a ∈ p0, a.Attrs.length ≤ 1048576) : FnOk prog 93 [.one (.s false 6 (List.map (Span.cells false) p0))] ⟨.one (.s true 6 (List.map (Span.cells true) (spec_l3All p0))), [], [], false⟩ := by
  refine FnOk.intro (E := env) envOk wide func93 rfl (by kernel_rfl) rfl rfl ?_
  have hg := spec_l3All.eq_1 p0
  have hown : ∀ g : (List Span), AV.Own (AV.one (.s true 6 (List.map (Span.cells true) g))) := fun g => ownSl own_Span _
  refine seqE ?_
  refine seqE ?_
  refine .inl (litE (m := 0) rfl ?_)
  refine seqE ?_
  refine seqE ?_
  refine loopLI (fun (i : Nat) s => s.length ≤ i) hg (Nat.le_refl _) [0] (fun x1 => [(3, .one (.n 0 [] 1 0 (x1.s).length)), (4, .one (.v (.int .i64 ((x1.i : Nat) : Int))))]) (fun x1 => [.new ⟨6, false, List.map (Span.cells true) x1.s, 0⟩]) [some 0] ?_ (fun x1 => ?_)
  · exact ⟨rfl, ⟨⟨rfl, rfl, rfl, rfl, by (first | rfl | omega | (dsimp only; omega) | (simp; done) | (simp; omega) | (simp [LstSt.init, LstSt.step, LstInv.init, CntSt.init, CntSt.step, CntInv.init, WhlSt.init, WhlSt.step]; done) | (simp [LstSt.init, LstSt.step, LstInv.init, CntSt.init, CntSt.step, CntInv.init, WhlSt.init, WhlSt.step]; omega))⟩, rfl, rfl, trivial⟩, ⟨⟨rfl, rfl, rfl⟩, trivial⟩, trivial⟩
  have hI1 := x1.hI
  try dsimp only at hI1
  refine seqE ?_
  refine seqE ?_
  refine lenM fun hN1 => ?_
  refine tstL (fun hi1 => ?_) (fun hi1 => ?_)
  · have hb1 := (x1.bdy hi1).trans (spec_l3All_b1.eq_1 ..)
    have hw1 := wrap_succ hi1 (by first | assumption | omega)
    refine seqE ?_
    refine seqE ?_
    refine idxAt hi1 ?_
    refine .inl (⟨_, _, c_spec_l3Copy (p0[x1.i]'hi1) (by exact hs.2 _ (List.getElem_mem hi1)), (FzAs.same _), ?_⟩)
    refine litE (m := 2) rfl ?_
    refine litE (m := 3) rfl ?_
    refine .inl (litE (m := 4) rfl ?_)
    refine .inl ?_
    refine rowsE (Y := List.map (Span.cells true) (x1.s ++ [(spec_l3Copy (p0[x1.i]'hi1))])) (by first | rfl | (simp [subR0, subR1, -List.map_take, -List.map_drop, take_map', drop_map', fz_Span, fzMap fz_Span, shMap sh_Span]; done) | (simp [subR0, subR1, -List.map_take, -List.map_drop, take_map', drop_map', fz_Span, fzMap fz_Span, shMap sh_Span]; rfl)) ?_
    refine appB (b := 64) (hs := by have q0 := hs.1; have q1 := hI1; have q2 := hi1; refine ⟨?_, ?_⟩; (show List.length _ * 64 ≤ _); (try simp only [List.length_map, List.length_append, List.length_cons, List.length_nil, List.length_take, List.length_drop]); omega; (try simp only [List.length_map, List.length_append, List.length_cons, List.length_nil, List.length_take, List.length_drop]); omega) ?_
    refine litE (m := 5) rfl ?_
    exact x1.goE hi1 hb1 (by have q1 := hI1; simp only [List.length_append, List.length_cons, List.length_nil]; omega) [some 5] ⟨rfl, ⟨⟨rfl, rfl, rfl, rfl, by (first | rfl | omega | (dsimp only; omega) | (simp; done) | (simp; omega) | (simp [LstSt.init, LstSt.step, LstInv.init, CntSt.init, CntSt.step, CntInv.init, WhlSt.init, WhlSt.step]; done) | (simp [LstSt.init, LstSt.step, LstInv.init, CntSt.init, CntSt.step, CntInv.init, WhlSt.init, WhlSt.step]; omega))⟩, (eqInt hw1), rfl, trivial⟩, ⟨⟨rfl, rfl, rfl⟩, trivial⟩, trivial⟩
  have hg := finE hg (x1.fin hi1)
  refine seqE ?_
  exact leafE hown hg
theorem spec_l3Copy_eq (x : Span) : spec_l3Copy x = x := by cases x; simp [spec_l3Copy]
theorem spec_l3All_eq (l : List Span) : spec_l3All l = l := by
  unfold spec_l3All
  rw [app_flat (b := spec_l3All_b1) (fun a => [a]) (fun i s a => by unfold spec_l3All_b1; rw [spec_l3Copy_eq]), List.nil_append]
  simp [Fin.get]
def spec_DrawSameBag_b1 (s1 : (List Int) × Int × Int × (List Span) × Int) : Step ((List Int) × Int × Int × (List Span) × Int) ((List Span) × (List Span)) :=
  (bif (decide (s1.2.2.2.2 > 0)) then (.next ((spec_l1Below (Cur.mk s1.1 s1.2.1 s1.2.2.1) (IntKind.i64.wrap (s1.2.2.2.2 + 1))).2.f_b, (spec_l1Below (Cur.mk s1.1 s1.2.1 s1.2.2.1) (IntKind.i64.wrap (s1.2.2.2.2 + 1))).2.f_i, (spec_l1Below (Cur.mk s1.1 s1.2.1 s1.2.2.1) (IntKind.i64.wrap (s1.2.2.2.2 + 1))).2.f_h, (List.set (List.set s1.2.2.2.1 (s1.2.2.2.2).toNat (s1.2.2.2.1[((spec_l1Below (Cur.mk s1.1 s1.2.1 s1.2.2.1) (IntKind.i64.wrap (s1.2.2.2.2 + 1))).1).toNat]?.getD default)) ((spec_l1Below (Cur.mk s1.1 s1.2.1 s1.2.2.1) (IntKind.i64.wrap (s1.2.2.2.2 + 1))).1).toNat (s1.2.2.2.1[(s1.2.2.2.2).toNat]?.getD default)), (IntKind.i64.wrap (s1.2.2.2.2 - 1)))) else (.stop (s1.1, s1.2.1, s1.2.2.1, s1.2.2.2.1, s1.2.2.2.2)))
def spec_DrawSameBag (p0 : (List Int)) : ((List Span) × (List Span)) :=
  (Fin.get (fun s1 => (bif (decide (((((spec_l3All ((spec_l3List (spec_l1New p0)).1 ++ (spec_l3List (spec_l3List (spec_l1New p0)).2).1))).length : Nat) : Int) > 0)) then (bif (spec_l1Once (Cur.mk s1.1 s1.2.1 s1.2.2.1) 3).1 then (((spec_l3List (spec_l1New p0)).1 ++ (spec_l3List (spec_l3List (spec_l1New p0)).2).1), (List.set s1.2.2.2.1 ((spec_l1Below (spec_l1Once (Cur.mk s1.1 s1.2.1 s1.2.2.1) 3).2 ((((spec_l3All ((spec_l3List (spec_l1New p0)).1 ++ (spec_l3List (spec_l3List (spec_l1New p0)).2).1))).length : Nat) : Int)).1).toNat (spec_l3Draw (spec_l1Below (spec_l1Once (Cur.mk s1.1 s1.2.1 s1.2.2.1) 3).2 ((((spec_l3All ((spec_l3List (spec_l1New p0)).1 ++ (spec_l3List (spec_l3List (spec_l1New p0)).2).1))).length : Nat) : Int)).2).1)) else (((spec_l3List (spec_l1New p0)).1 ++ (spec_l3List (spec_l3List (spec_l1New p0)).2).1), s1.2.2.2.1)) else (((spec_l3List (spec_l1New p0)).1 ++ (spec_l3List (spec_l3List (spec_l1New p0)).2).1), s1.2.2.2.1))) (loopW spec_DrawSameBag_b1 ((fun s : List Int × Int × Int × List Span × Int => s.2.2.2.2.toNat) ((spec_l3List (spec_l3List (spec_l1New p0)).2).2.f_b, (spec_l3List (spec_l3List (spec_l1New p0)).2).2.f_i, (spec_l3List (spec_l3List (spec_l1New p0)).2).2.f_h, (spec_l3All ((spec_l3List (spec_l1New p0)).1 ++ (spec_l3List (spec_l3List (spec_l1New p0)).2).1)), (IntKind.i64.wrap (((((spec_l3All ((spec_l3List (spec_l1New p0)).1 ++ (spec_l3List (spec_l3List (spec_l1New p0)).2).1))).length : Nat) : Int) - 1)))) ((spec_l3List (spec_l3List (spec_l1New p0)).2).2.f_b, (spec_l3List (spec_l3List (spec_l1New p0)).2).2.f_i, (spec_l3List (spec_l3List (spec_l1New p0)).2).2.f_h, (spec_l3All ((spec_l3List (spec_l1New p0)).1 ++ (spec_l3List (spec_l3List (spec_l1New p0)).2).1)), (IntKind.i64.wrap (((((spec_l3All ((spec_l3List (spec_l1New p0)).1 ++ (spec_l3List (spec_l3List (spec_l1New p0)).2).1))).length : Nat) : Int) - 1)))))
theorem bagBd {p0 : List Int} (hs : p0.length ≤ 1048576) : ((spec_l3List (spec_l1New p0)).1 ++ (spec_l3List (spec_l3List (spec_l1New p0)).2).1).length ≤ 1048576 ∧ ∀ a ∈ ((spec_l3List (spec_l1New p0)).1 ++ (spec_l3List (spec_l3List (spec_l1New p0)).2).1), a.Attrs.length ≤ 1048576 := by
  have k0 := l1New_ok hs; have k1 := l3List_ok k0; have k2 := l3List_ok k1.1
  refine ⟨by have k3 := k1.2.1; have k4 := k2.2.1; simp only [List.length_append]; omega, fun a ha => ?_⟩
  rcases List.mem_append.1 ha with ha | ha
  · exact Nat.le_trans (k1.2.2 a ha) (by omega)
  · exact Nat.le_trans (k2.2.2 a ha) (by omega)
theorem bagLen {p0 : List Int} (hs : p0.length ≤ 1048576) : (spec_l3All ((spec_l3List (spec_l1New p0)).1 ++ (spec_l3List (spec_l3List (spec_l1New p0)).2).1)).length ≤ 8 := by
  have k0 := l1New_ok hs; have k1 := l3List_ok k0; have k2 := l3List_ok k1.1
  rw [spec_l3All_eq, List.length_append]
  have k3 := k1.2.1; have k4 := k2.2.1; omega
theorem c_spec_DrawSameBag (p0 : (List Int)) (hs : p0.length ≤ 1048576) : FnOk prog 35 [.one (.s false 1 (List.map cU8 p0))] ⟨.tup [.one (.s true 6 (List.map (Span.cells true) (spec_DrawSameBag p0).1)), .one (.s true 6 (List.map (Span.cells false) (spec_DrawSameBag p0).2))], [], [], true⟩ := by
  refine FnOk.intro (E := env) envOk wide func35 rfl (by kernel_rfl) rfl rfl ?_
  have hg := spec_DrawSameBag.eq_1 p0
  have hown : (fun g : ((List Span) × (List Span)) => AV.tup [.one (.s true 6 (List.map (Span.cells true) g.1)), .one (.s true 6 (List.map (Span.cells false) g.2))]) = _ := rfl
  refine seqE ?_
  refine seqE ?_
  refine .inl (⟨_, _, c_spec_l1New p0, (FzAs.same _), ?_⟩)
  refine litE (m := 1) rfl ?_
  refine seqE ?_
  refine .inr ⟨0, _, _, _, c_spec_l3List (spec_l1New p0) (by first | ((have k0 := l1New_ok hs; have k1 := l3List_ok k0; have k2 := l3List_ok k1.1; (try dsimp only); repeat' first | exact k0 | exact k1.1 | exact k2.1 | exact hI1.1 | exact x1.h.1 | apply ok_l1Byte | apply ok_l1Below | apply ok_l1Once | apply ok_l1Int | apply ok_l1Str | apply ok_l2One | apply ok_l2Draw | apply ok_l3Draw | apply ok_l3List); done) | exact bagBd hs), (FzAs.same _), ?_⟩
  refine litE (m := 3) rfl ?_
  refine .inr ⟨0, _, _, _, c_spec_l3List (spec_l3List (spec_l1New p0)).2 (by first | ((have k0 := l1New_ok hs; have k1 := l3List_ok k0; have k2 := l3List_ok k1.1; (try dsimp only); repeat' first | exact k0 | exact k1.1 | exact k2.1 | exact hI1.1 | exact x1.h.1 | apply ok_l1Byte | apply ok_l1Below | apply ok_l1Once | apply ok_l1Int | apply ok_l1Str | apply ok_l2One | apply ok_l2Draw | apply ok_l3Draw | apply ok_l3List); done) | exact bagBd hs), (FzAs.same _), ?_⟩
  refine litE (m := 5) rfl ?_
  refine .inl ?_
  refine rowsE (Y := List.map (Span.cells true) ((spec_l3List (spec_l1New p0)).1 ++ (spec_l3List (spec_l3List (spec_l1New p0)).2).1)) (by first | rfl | (simp [subR0, subR1, -List.map_take, -List.map_drop, take_map', drop_map', fz_Span, fzMap fz_Span, shMap sh_Span]; done) | (simp [subR0, subR1, -List.map_take, -List.map_drop, take_map', drop_map', fz_Span, fzMap fz_Span, shMap sh_Span]; rfl)) ?_
  refine appB (b := 64) (hs := by have k0 := l1New_ok hs; have k1 := l3List_ok k0; have k2 := l3List_ok k1.1; have k3 := k1.2.1; have k4 := k2.2.1; refine ⟨?_, ?_⟩; (show List.length _ * 64 ≤ _); (try simp only [List.length_map, List.length_append, List.length_cons, List.length_nil, List.length_take, List.length_drop]); omega; (try simp only [List.length_map, List.length_append, List.length_cons, List.length_nil, List.length_take, List.length_drop]); omega) ?_
  refine litE (m := 6) rfl ?_
  refine seqE ?_
  refine .inl (⟨_, _, (FnOk.frzIn rfl (frzMap frz_Span _) (c_spec_l3All ((spec_l3List (spec_l1New p0)).1 ++ (spec_l3List (spec_l3List (spec_l1New p0)).2).1) (by first | ((have k0 := l1New_ok hs; have k1 := l3List_ok k0; have k2 := l3List_ok k1.1; (try dsimp only); repeat' first | exact k0 | exact k1.1 | exact k2.1 | exact hI1.1 | exact x1.h.1 | apply ok_l1Byte | apply ok_l1Below | apply ok_l1Once | apply ok_l1Int | apply ok_l1Str | apply ok_l2One | apply ok_l2Draw | apply ok_l3Draw | apply ok_l3List); done) | exact bagBd hs))), (.cons (.one (.sl _ _ _ _ (frzMap frz_Span _))) (.same _)), ?_⟩)
  refine litE (m := 8) rfl ?_
  refine seqE ?_
  refine seqE ?_
  refine lenE (k := ((spec_l3All ((spec_l3List (spec_l1New p0)).1 ++ (spec_l3List (spec_l3List (spec_l1New p0)).2).1))).length) (by simp) (fun hN1 => ?_)
  refine loopWE (m := (fun s : List Int × Int × Int × List Span × Int => s.2.2.2.2.toNat)) (s0 := ((spec_l3List (spec_l3List (spec_l1New p0)).2).2.f_b, (spec_l3List (spec_l3List (spec_l1New p0)).2).2.f_i, (spec_l3List (spec_l3List (spec_l1New p0)).2).2.f_h, (spec_l3All ((spec_l3List (spec_l1New p0)).1 ++ (spec_l3List (spec_l3List (spec_l1New p0)).2).1)), (IntKind.i64.wrap (((((spec_l3All ((spec_l3List (spec_l1New p0)).1 ++ (spec_l3List (spec_l3List (spec_l1New p0)).2).1))).length : Nat) : Int) - 1)))) (fun s : List Int × Int × Int × List Span × Int => CurOk (Cur.mk s.1 s.2.1 s.2.2.1) ∧ s.2.2.2.1.length = (spec_l3All ((spec_l3List (spec_l1New p0)).1 ++ (spec_l3List (spec_l3List (spec_l1New p0)).2).1)).length ∧ -1 ≤ s.2.2.2.2 ∧ s.2.2.2.2 < (s.2.2.2.1.length : Int)) hg (by have k0 := l1New_ok hs; have k1 := l3List_ok k0; have k2 := l3List_ok k1.1; have e1 := bagLen hs; exact ⟨k2.1, rfl, by (first | omega | (dsimp only <;> omega) | (simp (disch := omega) only [wrap_small, mid_eq, mid_eq1, mid_eq2, mid_eq3, List.length_map, List.length_set] <;> omega) | (simp (disch := omega) only [wrap_small, mid_eq, mid_eq1, mid_eq2, mid_eq3, List.length_map, List.length_set] at * <;> omega)), by (first | omega | (dsimp only <;> omega) | (simp (disch := omega) only [wrap_small, mid_eq, mid_eq1, mid_eq2, mid_eq3, List.length_map, List.length_set] <;> omega) | (simp (disch := omega) only [wrap_small, mid_eq, mid_eq1, mid_eq2, mid_eq3, List.length_map, List.length_set] at * <;> omega))⟩) [4, 5, 6] (fun x1 => [(7, .one (.v (.int .i64 x1.s.2.2.2.2)))]) (fun x1 => [.dead, .new ⟨3, true, [[.s false 1 (List.map cU8 x1.s.1), .v (.int .i64 x1.s.2.1), .v (.int .i64 x1.s.2.2.1)]], 0⟩, .dead, .dead, .dead, .dead, .keep 6, .dead, .new ⟨6, false, List.map (Span.cells false) x1.s.2.2.2.1, 0⟩]) [none, some 1, none, none, none, none, some 6, none, some 8] ?_ (fun x1 => ?_)
  · exact ⟨rfl, ⟨rfl, ⟨rfl, rfl, rfl, rfl⟩, ⟨rfl, rfl, rfl, rfl, by (first | rfl | omega | (dsimp only; omega) | (simp; done) | (simp; omega) | (simp [LstSt.init, LstSt.step, LstInv.init, CntSt.init, CntSt.step, CntInv.init, WhlSt.init, WhlSt.step]; done) | (simp [LstSt.init, LstSt.step, LstInv.init, CntSt.init, CntSt.step, CntInv.init, WhlSt.init, WhlSt.step]; omega))⟩, ⟨rfl, rfl, rfl, rfl, by (first | rfl | omega | (dsimp only; omega) | (simp; done) | (simp; omega) | (simp [LstSt.init, LstSt.step, LstInv.init, CntSt.init, CntSt.step, CntInv.init, WhlSt.init, WhlSt.step]; done) | (simp [LstSt.init, LstSt.step, LstInv.init, CntSt.init, CntSt.step, CntInv.init, WhlSt.init, WhlSt.step]; omega))⟩, trivial⟩, ⟨⟨rfl, rfl, ⟨rfl, rfl, rfl, trivial⟩⟩, ⟨rfl, rfl, rfl⟩, ⟨rfl, rfl, rfl⟩, trivial⟩, trivial⟩
  have hI1 := x1.hI
  try dsimp only at hI1
  have hb1 := x1.bdy.trans (spec_DrawSameBag_b1.eq_1 ..)
  refine seqE ?_
  refine seqE ?_
  refine brD hb1 (fun hb1 h2 => ?_) (fun hb1 h2 => ?_)
  · refine seqE ?_
    refine seqE ?_
    refine .inr ⟨0, _, _, _, c_spec_l1Below (Cur.mk x1.s.1 x1.s.2.1 x1.s.2.2.1) (IntKind.i64.wrap (x1.s.2.2.2.2 + 1)) (by first | ((have k0 := l1New_ok hs; have k1 := l3List_ok k0; have k2 := l3List_ok k1.1; (try dsimp only); repeat' first | exact k0 | exact k1.1 | exact k2.1 | exact hI1.1 | exact x1.h.1 | apply ok_l1Byte | apply ok_l1Below | apply ok_l1Once | apply ok_l1Int | apply ok_l1Str | apply ok_l2One | apply ok_l2Draw | apply ok_l3Draw | apply ok_l3List); done) | exact bagBd hs), (FzAs.same _), ?_⟩
    refine litE (m := 10) rfl ?_
    refine seqE ?_
    refine andE (by first | (have k0 := l1New_ok hs; have k1 := l3List_ok k0; have k2 := l3List_ok k1.1; have e1 := bagLen hs; have f1 := hI1.1; have f2 := hI1.2.1; have f3 := hI1.2.2.1; have f4 := hI1.2.2.2; have w1 : IntKind.i64.wrap (x1.s.2.2.2.2 + 1) = x1.s.2.2.2.2 + 1 := wrap_small (by omega) (by omega); have b1 := bd_l1Below (Cur.mk x1.s.1 x1.s.2.1 x1.s.2.2.1) (n := IntKind.i64.wrap (x1.s.2.2.2.2 + 1)) (by omega) (by omega); (try simp only [List.length_set]); first | omega | (first | omega | (dsimp only <;> omega) | (simp (disch := omega) only [wrap_small, mid_eq, mid_eq1, mid_eq2, mid_eq3, List.length_map, List.length_set] <;> omega) | (simp (disch := omega) only [wrap_small, mid_eq, mid_eq1, mid_eq2, mid_eq3, List.length_map, List.length_set] at * <;> omega))) | (have k0 := l1New_ok hs; have k1 := l3List_ok k0; have k2 := l3List_ok k1.1; have e1 := bagLen hs; have f1 := hI1.1; have f2 := hI1.2.1; have f3 := hI1.2.2.1; have f4 := hI1.2.2.2; have b1 := bd_l1Below (spec_l1Once (Cur.mk x1.s.1 x1.s.2.1 x1.s.2.2.1) 3).2 (n := (((spec_l3All ((spec_l3List (spec_l1New p0)).1 ++ (spec_l3List (spec_l3List (spec_l1New p0)).2).1)).length : Nat) : Int)) (by omega) (by omega); (try simp only [List.length_set]); first | omega | (first | omega | (dsimp only <;> omega) | (simp (disch := omega) only [wrap_small, mid_eq, mid_eq1, mid_eq2, mid_eq3, List.length_map, List.length_set] <;> omega) | (simp (disch := omega) only [wrap_small, mid_eq, mid_eq1, mid_eq2, mid_eq3, List.length_map, List.length_set] at * <;> omega)))) ?_
    refine rowGet (i := (x1.s.2.2.2.2).toNat) (l := x1.s.2.2.2.1) (by first | rfl | exact Nat.zero_add _ | simp) (fun hq3 => ?_)
    refine litE (m := 10) rfl ?_
    refine seqE ?_
    refine andE (by first | (have k0 := l1New_ok hs; have k1 := l3List_ok k0; have k2 := l3List_ok k1.1; have e1 := bagLen hs; have f1 := hI1.1; have f2 := hI1.2.1; have f3 := hI1.2.2.1; have f4 := hI1.2.2.2; have w1 : IntKind.i64.wrap (x1.s.2.2.2.2 + 1) = x1.s.2.2.2.2 + 1 := wrap_small (by omega) (by omega); have b1 := bd_l1Below (Cur.mk x1.s.1 x1.s.2.1 x1.s.2.2.1) (n := IntKind.i64.wrap (x1.s.2.2.2.2 + 1)) (by omega) (by omega); (try simp only [List.length_set]); first | omega | (first | omega | (dsimp only <;> omega) | (simp (disch := omega) only [wrap_small, mid_eq, mid_eq1, mid_eq2, mid_eq3, List.length_map, List.length_set] <;> omega) | (simp (disch := omega) only [wrap_small, mid_eq, mid_eq1, mid_eq2, mid_eq3, List.length_map, List.length_set] at * <;> omega))) | (have k0 := l1New_ok hs; have k1 := l3List_ok k0; have k2 := l3List_ok k1.1; have e1 := bagLen hs; have f1 := hI1.1; have f2 := hI1.2.1; have f3 := hI1.2.2.1; have f4 := hI1.2.2.2; have b1 := bd_l1Below (spec_l1Once (Cur.mk x1.s.1 x1.s.2.1 x1.s.2.2.1) 3).2 (n := (((spec_l3All ((spec_l3List (spec_l1New p0)).1 ++ (spec_l3List (spec_l3List (spec_l1New p0)).2).1)).length : Nat) : Int)) (by omega) (by omega); (try simp only [List.length_set]); first | omega | (first | omega | (dsimp only <;> omega) | (simp (disch := omega) only [wrap_small, mid_eq, mid_eq1, mid_eq2, mid_eq3, List.length_map, List.length_set] <;> omega) | (simp (disch := omega) only [wrap_small, mid_eq, mid_eq1, mid_eq2, mid_eq3, List.length_map, List.length_set] at * <;> omega)))) ?_
    refine rowGet (i := ((spec_l1Below (Cur.mk x1.s.1 x1.s.2.1 x1.s.2.2.1) (IntKind.i64.wrap (x1.s.2.2.2.2 + 1))).1).toNat) (l := x1.s.2.2.2.1) (by first | rfl | exact Nat.zero_add _ | simp) (fun hq4 => ?_)
    refine andE (by first | (have k0 := l1New_ok hs; have k1 := l3List_ok k0; have k2 := l3List_ok k1.1; have e1 := bagLen hs; have f1 := hI1.1; have f2 := hI1.2.1; have f3 := hI1.2.2.1; have f4 := hI1.2.2.2; have w1 : IntKind.i64.wrap (x1.s.2.2.2.2 + 1) = x1.s.2.2.2.2 + 1 := wrap_small (by omega) (by omega); have b1 := bd_l1Below (Cur.mk x1.s.1 x1.s.2.1 x1.s.2.2.1) (n := IntKind.i64.wrap (x1.s.2.2.2.2 + 1)) (by omega) (by omega); (try simp only [List.length_set]); first | omega | (first | omega | (dsimp only <;> omega) | (simp (disch := omega) only [wrap_small, mid_eq, mid_eq1, mid_eq2, mid_eq3, List.length_map, List.length_set] <;> omega) | (simp (disch := omega) only [wrap_small, mid_eq, mid_eq1, mid_eq2, mid_eq3, List.length_map, List.length_set] at * <;> omega))) | (have k0 := l1New_ok hs; have k1 := l3List_ok k0; have k2 := l3List_ok k1.1; have e1 := bagLen hs; have f1 := hI1.1; have f2 := hI1.2.1; have f3 := hI1.2.2.1; have f4 := hI1.2.2.2; have b1 := bd_l1Below (spec_l1Once (Cur.mk x1.s.1 x1.s.2.1 x1.s.2.2.1) 3).2 (n := (((spec_l3All ((spec_l3List (spec_l1New p0)).1 ++ (spec_l3List (spec_l3List (spec_l1New p0)).2).1)).length : Nat) : Int)) (by omega) (by omega); (try simp only [List.length_set]); first | omega | (first | omega | (dsimp only <;> omega) | (simp (disch := omega) only [wrap_small, mid_eq, mid_eq1, mid_eq2, mid_eq3, List.length_map, List.length_set] <;> omega) | (simp (disch := omega) only [wrap_small, mid_eq, mid_eq1, mid_eq2, mid_eq3, List.length_map, List.length_set] at * <;> omega)))) ?_
    refine rowsE (Y := List.map (Span.cells false) (List.set x1.s.2.2.2.1 (x1.s.2.2.2.2).toNat (x1.s.2.2.2.1[((spec_l1Below (Cur.mk x1.s.1 x1.s.2.1 x1.s.2.2.1) (IntKind.i64.wrap (x1.s.2.2.2.2 + 1))).1).toNat]?.getD default))) (by exact setMapE (by simp) (fun a ha => by first | rfl | (simp only [ha, Option.getD_some]; rfl) | (obtain ⟨_, rfl⟩ := List.getElem?_eq_some_iff.1 ha; rfl) | (simp only [Pol.cells_eq]; rfl) | (simp only [ha, Option.getD_some, Pol.cells_eq]; rfl))) ?_
    refine andE (by first | (have k0 := l1New_ok hs; have k1 := l3List_ok k0; have k2 := l3List_ok k1.1; have e1 := bagLen hs; have f1 := hI1.1; have f2 := hI1.2.1; have f3 := hI1.2.2.1; have f4 := hI1.2.2.2; have w1 : IntKind.i64.wrap (x1.s.2.2.2.2 + 1) = x1.s.2.2.2.2 + 1 := wrap_small (by omega) (by omega); have b1 := bd_l1Below (Cur.mk x1.s.1 x1.s.2.1 x1.s.2.2.1) (n := IntKind.i64.wrap (x1.s.2.2.2.2 + 1)) (by omega) (by omega); (try simp only [List.length_set]); first | omega | (first | omega | (dsimp only <;> omega) | (simp (disch := omega) only [wrap_small, mid_eq, mid_eq1, mid_eq2, mid_eq3, List.length_map, List.length_set] <;> omega) | (simp (disch := omega) only [wrap_small, mid_eq, mid_eq1, mid_eq2, mid_eq3, List.length_map, List.length_set] at * <;> omega))) | (have k0 := l1New_ok hs; have k1 := l3List_ok k0; have k2 := l3List_ok k1.1; have e1 := bagLen hs; have f1 := hI1.1; have f2 := hI1.2.1; have f3 := hI1.2.2.1; have f4 := hI1.2.2.2; have b1 := bd_l1Below (spec_l1Once (Cur.mk x1.s.1 x1.s.2.1 x1.s.2.2.1) 3).2 (n := (((spec_l3All ((spec_l3List (spec_l1New p0)).1 ++ (spec_l3List (spec_l3List (spec_l1New p0)).2).1)).length : Nat) : Int)) (by omega) (by omega); (try simp only [List.length_set]); first | omega | (first | omega | (dsimp only <;> omega) | (simp (disch := omega) only [wrap_small, mid_eq, mid_eq1, mid_eq2, mid_eq3, List.length_map, List.length_set] <;> omega) | (simp (disch := omega) only [wrap_small, mid_eq, mid_eq1, mid_eq2, mid_eq3, List.length_map, List.length_set] at * <;> omega)))) ?_
    refine rowsE (Y := List.map (Span.cells false) (List.set (List.set x1.s.2.2.2.1 (x1.s.2.2.2.2).toNat (x1.s.2.2.2.1[((spec_l1Below (Cur.mk x1.s.1 x1.s.2.1 x1.s.2.2.1) (IntKind.i64.wrap (x1.s.2.2.2.2 + 1))).1).toNat]?.getD default)) ((spec_l1Below (Cur.mk x1.s.1 x1.s.2.1 x1.s.2.2.1) (IntKind.i64.wrap (x1.s.2.2.2.2 + 1))).1).toNat (x1.s.2.2.2.1[(x1.s.2.2.2.2).toNat]?.getD default))) (by exact setMapE (by simp) (fun a ha => by first | rfl | (simp only [ha, Option.getD_some]; rfl) | (obtain ⟨_, rfl⟩ := List.getElem?_eq_some_iff.1 ha; rfl) | (simp only [Pol.cells_eq]; rfl) | (simp only [ha, Option.getD_some, Pol.cells_eq]; rfl))) ?_
    exact x1.goE hb1 (show (fun s : List Int × Int × Int × List Span × Int => CurOk (Cur.mk s.1 s.2.1 s.2.2.1) ∧ s.2.2.2.1.length = (spec_l3All ((spec_l3List (spec_l1New p0)).1 ++ (spec_l3List (spec_l3List (spec_l1New p0)).2).1)).length ∧ -1 ≤ s.2.2.2.2 ∧ s.2.2.2.2 < (s.2.2.2.1.length : Int)) ((spec_l1Below (Cur.mk x1.s.1 x1.s.2.1 x1.s.2.2.1) (IntKind.i64.wrap (x1.s.2.2.2.2 + 1))).2.f_b, (spec_l1Below (Cur.mk x1.s.1 x1.s.2.1 x1.s.2.2.1) (IntKind.i64.wrap (x1.s.2.2.2.2 + 1))).2.f_i, (spec_l1Below (Cur.mk x1.s.1 x1.s.2.1 x1.s.2.2.1) (IntKind.i64.wrap (x1.s.2.2.2.2 + 1))).2.f_h, (List.set (List.set x1.s.2.2.2.1 (x1.s.2.2.2.2).toNat (x1.s.2.2.2.1[((spec_l1Below (Cur.mk x1.s.1 x1.s.2.1 x1.s.2.2.1) (IntKind.i64.wrap (x1.s.2.2.2.2 + 1))).1).toNat]?.getD default)) ((spec_l1Below (Cur.mk x1.s.1 x1.s.2.1 x1.s.2.2.1) (IntKind.i64.wrap (x1.s.2.2.2.2 + 1))).1).toNat (x1.s.2.2.2.1[(x1.s.2.2.2.2).toNat]?.getD default)), (IntKind.i64.wrap (x1.s.2.2.2.2 - 1))) ∧ (fun s : List Int × Int × Int × List Span × Int => s.2.2.2.2.toNat) ((spec_l1Below (Cur.mk x1.s.1 x1.s.2.1 x1.s.2.2.1) (IntKind.i64.wrap (x1.s.2.2.2.2 + 1))).2.f_b, (spec_l1Below (Cur.mk x1.s.1 x1.s.2.1 x1.s.2.2.1) (IntKind.i64.wrap (x1.s.2.2.2.2 + 1))).2.f_i, (spec_l1Below (Cur.mk x1.s.1 x1.s.2.1 x1.s.2.2.1) (IntKind.i64.wrap (x1.s.2.2.2.2 + 1))).2.f_h, (List.set (List.set x1.s.2.2.2.1 (x1.s.2.2.2.2).toNat (x1.s.2.2.2.1[((spec_l1Below (Cur.mk x1.s.1 x1.s.2.1 x1.s.2.2.1) (IntKind.i64.wrap (x1.s.2.2.2.2 + 1))).1).toNat]?.getD default)) ((spec_l1Below (Cur.mk x1.s.1 x1.s.2.1 x1.s.2.2.1) (IntKind.i64.wrap (x1.s.2.2.2.2 + 1))).1).toNat (x1.s.2.2.2.1[(x1.s.2.2.2.2).toNat]?.getD default)), (IntKind.i64.wrap (x1.s.2.2.2.2 - 1))) < (fun s : List Int × Int × Int × List Span × Int => s.2.2.2.2.toNat) x1.s by have k0 := l1New_ok hs; have k1 := l3List_ok k0; have k2 := l3List_ok k1.1; have e1 := bagLen hs; have f1 := hI1.1; have f2 := hI1.2.1; have f3 := hI1.2.2.1; have f4 := hI1.2.2.2; have w1 : IntKind.i64.wrap (x1.s.2.2.2.2 + 1) = x1.s.2.2.2.2 + 1 := wrap_small (by omega) (by omega); have b1 := bd_l1Below (Cur.mk x1.s.1 x1.s.2.1 x1.s.2.2.1) (n := IntKind.i64.wrap (x1.s.2.2.2.2 + 1)) (by omega) (by omega); exact ⟨⟨by (have k0 := l1New_ok hs; have k1 := l3List_ok k0; have k2 := l3List_ok k1.1; (try dsimp only); repeat' first | exact k0 | exact k1.1 | exact k2.1 | exact hI1.1 | exact x1.h.1 | apply ok_l1Byte | apply ok_l1Below | apply ok_l1Once | apply ok_l1Int | apply ok_l1Str | apply ok_l2One | apply ok_l2Draw | apply ok_l3Draw | apply ok_l3List), by (simp only [List.length_set]); exact f2, by (first | omega | (dsimp only <;> omega) | (simp (disch := omega) only [wrap_small, mid_eq, mid_eq1, mid_eq2, mid_eq3, List.length_map, List.length_set] <;> omega) | (simp (disch := omega) only [wrap_small, mid_eq, mid_eq1, mid_eq2, mid_eq3, List.length_map, List.length_set] at * <;> omega)), by (simp only [List.length_set]); (first | omega | (dsimp only <;> omega) | (simp (disch := omega) only [wrap_small, mid_eq, mid_eq1, mid_eq2, mid_eq3, List.length_map, List.length_set] <;> omega) | (simp (disch := omega) only [wrap_small, mid_eq, mid_eq1, mid_eq2, mid_eq3, List.length_map, List.length_set] at * <;> omega))⟩, by (first | omega | (dsimp only <;> omega) | (simp (disch := omega) only [wrap_small, mid_eq, mid_eq1, mid_eq2, mid_eq3, List.length_map, List.length_set] <;> omega) | (simp (disch := omega) only [wrap_small, mid_eq, mid_eq1, mid_eq2, mid_eq3, List.length_map, List.length_set] at * <;> omega))⟩) [none, some 1, none, none, none, none, some 6, none, some 8] ⟨rfl, ⟨rfl, ⟨rfl, rfl, rfl, rfl⟩, ⟨rfl, rfl, rfl, rfl, by (first | rfl | omega | (dsimp only; omega) | (simp; done) | (simp; omega) | (simp [LstSt.init, LstSt.step, LstInv.init, CntSt.init, CntSt.step, CntInv.init, WhlSt.init, WhlSt.step]; done) | (simp [LstSt.init, LstSt.step, LstInv.init, CntSt.init, CntSt.step, CntInv.init, WhlSt.init, WhlSt.step]; omega))⟩, ⟨rfl, rfl, rfl, rfl, by (first | rfl | omega | (dsimp only; omega) | (simp; done) | (simp; omega) | (simp [LstSt.init, LstSt.step, LstInv.init, CntSt.init, CntSt.step, CntInv.init, WhlSt.init, WhlSt.step]; done) | (simp [LstSt.init, LstSt.step, LstInv.init, CntSt.init, CntSt.step, CntInv.init, WhlSt.init, WhlSt.step]; omega))⟩, trivial⟩, ⟨⟨rfl, rfl, ⟨rfl, rfl, rfl, trivial⟩⟩, ⟨rfl, rfl, rfl⟩, ⟨rfl, rfl, rfl⟩, trivial⟩, trivial⟩
  · have hg := finE hg (x1.outS hb1)
    refine seqE ?_
    refine seqE ?_
    refine lenE (k := ((spec_l3All ((spec_l3List (spec_l1New p0)).1 ++ (spec_l3List (spec_l3List (spec_l1New p0)).2).1))).length) (by simp) (fun hN5 => ?_)
    refine brD hg (fun hg h6 => ?_) (fun hg h6 => ?_)
    · refine .inr ⟨0, _, _, _, c_spec_l1Once (Cur.mk x1.s.1 x1.s.2.1 x1.s.2.2.1) 3 (by first | ((have k0 := l1New_ok hs; have k1 := l3List_ok k0; have k2 := l3List_ok k1.1; (try dsimp only); repeat' first | exact k0 | exact k1.1 | exact k2.1 | exact hI1.1 | exact x1.h.1 | apply ok_l1Byte | apply ok_l1Below | apply ok_l1Once | apply ok_l1Int | apply ok_l1Str | apply ok_l2One | apply ok_l2Draw | apply ok_l3Draw | apply ok_l3List); done) | exact bagBd hs), (FzAs.same _), ?_⟩
      refine litE (m := 10) rfl ?_
      refine brE hg (fun hg h7 => ?_) (fun hg h7 => ?_)
      · refine lenE (k := ((spec_l3All ((spec_l3List (spec_l1New p0)).1 ++ (spec_l3List (spec_l3List (spec_l1New p0)).2).1))).length) (by simp) (fun hN8 => ?_)
        refine .inr ⟨0, _, _, _, c_spec_l1Below (spec_l1Once (Cur.mk x1.s.1 x1.s.2.1 x1.s.2.2.1) 3).2 ((((spec_l3All ((spec_l3List (spec_l1New p0)).1 ++ (spec_l3List (spec_l3List (spec_l1New p0)).2).1))).length : Nat) : Int) (by first | ((have k0 := l1New_ok hs; have k1 := l3List_ok k0; have k2 := l3List_ok k1.1; (try dsimp only); repeat' first | exact k0 | exact k1.1 | exact k2.1 | exact hI1.1 | exact x1.h.1 | apply ok_l1Byte | apply ok_l1Below | apply ok_l1Once | apply ok_l1Int | apply ok_l1Str | apply ok_l2One | apply ok_l2Draw | apply ok_l3Draw | apply ok_l3List); done) | exact bagBd hs), (FzAs.same _), ?_⟩
        refine litE (m := 11) rfl ?_
        refine .inr ⟨0, _, _, _, (FnOk.frzAB rfl rfl (frz_Span _) (c_spec_l3Draw (spec_l1Below (spec_l1Once (Cur.mk x1.s.1 x1.s.2.1 x1.s.2.2.1) 3).2 ((((spec_l3All ((spec_l3List (spec_l1New p0)).1 ++ (spec_l3List (spec_l3List (spec_l1New p0)).2).1))).length : Nat) : Int)).2 (by first | ((have k0 := l1New_ok hs; have k1 := l3List_ok k0; have k2 := l3List_ok k1.1; (try dsimp only); repeat' first | exact k0 | exact k1.1 | exact k2.1 | exact hI1.1 | exact x1.h.1 | apply ok_l1Byte | apply ok_l1Below | apply ok_l1Once | apply ok_l1Int | apply ok_l1Str | apply ok_l2One | apply ok_l2Draw | apply ok_l3Draw | apply ok_l3List); done) | exact bagBd hs))), (FzAs.same _), ?_⟩
        refine litE (m := 12) rfl ?_
        refine andE (by first | (have k0 := l1New_ok hs; have k1 := l3List_ok k0; have k2 := l3List_ok k1.1; have e1 := bagLen hs; have f1 := hI1.1; have f2 := hI1.2.1; have f3 := hI1.2.2.1; have f4 := hI1.2.2.2; have w1 : IntKind.i64.wrap (x1.s.2.2.2.2 + 1) = x1.s.2.2.2.2 + 1 := wrap_small (by omega) (by omega); have b1 := bd_l1Below (Cur.mk x1.s.1 x1.s.2.1 x1.s.2.2.1) (n := IntKind.i64.wrap (x1.s.2.2.2.2 + 1)) (by omega) (by omega); (try simp only [List.length_set]); first | omega | (first | omega | (dsimp only <;> omega) | (simp (disch := omega) only [wrap_small, mid_eq, mid_eq1, mid_eq2, mid_eq3, List.length_map, List.length_set] <;> omega) | (simp (disch := omega) only [wrap_small, mid_eq, mid_eq1, mid_eq2, mid_eq3, List.length_map, List.length_set] at * <;> omega))) | (have k0 := l1New_ok hs; have k1 := l3List_ok k0; have k2 := l3List_ok k1.1; have e1 := bagLen hs; have f1 := hI1.1; have f2 := hI1.2.1; have f3 := hI1.2.2.1; have f4 := hI1.2.2.2; have b1 := bd_l1Below (spec_l1Once (Cur.mk x1.s.1 x1.s.2.1 x1.s.2.2.1) 3).2 (n := (((spec_l3All ((spec_l3List (spec_l1New p0)).1 ++ (spec_l3List (spec_l3List (spec_l1New p0)).2).1)).length : Nat) : Int)) (by omega) (by omega); (try simp only [List.length_set]); first | omega | (first | omega | (dsimp only <;> omega) | (simp (disch := omega) only [wrap_small, mid_eq, mid_eq1, mid_eq2, mid_eq3, List.length_map, List.length_set] <;> omega) | (simp (disch := omega) only [wrap_small, mid_eq, mid_eq1, mid_eq2, mid_eq3, List.length_map, List.length_set] at * <;> omega)))) ?_
        refine rowsE (Y := List.map (Span.cells false) (List.set x1.s.2.2.2.1 ((spec_l1Below (spec_l1Once (Cur.mk x1.s.1 x1.s.2.1 x1.s.2.2.1) 3).2 ((((spec_l3All ((spec_l3List (spec_l1New p0)).1 ++ (spec_l3List (spec_l3List (spec_l1New p0)).2).1))).length : Nat) : Int)).1).toNat (spec_l3Draw (spec_l1Below (spec_l1Once (Cur.mk x1.s.1 x1.s.2.1 x1.s.2.2.1) 3).2 ((((spec_l3All ((spec_l3List (spec_l1New p0)).1 ++ (spec_l3List (spec_l3List (spec_l1New p0)).2).1))).length : Nat) : Int)).2).1)) (by exact setMapE (by simp) (fun a ha => by first | rfl | (simp only [ha, Option.getD_some]; rfl) | (obtain ⟨_, rfl⟩ := List.getElem?_eq_some_iff.1 ha; rfl) | (simp only [Pol.cells_eq]; rfl) | (simp only [ha, Option.getD_some, Pol.cells_eq]; rfl))) ?_
        refine seqE ?_
        exact leafA hown hg
      · refine seqE ?_
        exact leafA hown hg
    · refine seqE ?_
      exact leafA hown hg
theorem drawBag_ok {p0 : List Int} (hs : p0.length ≤ 1048576) : (spec_DrawSameBag p0).1.length ≤ 8 ∧ (spec_DrawSameBag p0).2.length ≤ 8 := by
  have e1 := bagLen hs
  have e2 : ((spec_l3List (spec_l1New p0)).1 ++ (spec_l3List (spec_l3List (spec_l1New p0)).2).1).length ≤ 8 := by rw [spec_l3All_eq] at e1; exact e1
  unfold spec_DrawSameBag
  refine len_fin (P := fun s : List Int × Int × Int × List Span × Int => s.2.2.2.1.length ≤ 8) (Q := fun z : List Span × List Span => z.1.length ≤ 8 ∧ z.2.length ≤ 8) (loopW_ind (P := fun s : List Int × Int × Int × List Span × Int => s.2.2.2.1.length ≤ 8) (fun s hs => ?_) _ _ e1) (fun v hv => ?_)
  · unfold spec_DrawSameBag_b1
    cases decide (s.2.2.2.2 > 0)
    · exact st_step hs
    · exact nx_step (by simp only [List.length_set]; exact hs)
  · cases decide ((((spec_l3All ((spec_l3List (spec_l1New p0)).1 ++ (spec_l3List (spec_l3List (spec_l1New p0)).2).1)).length : Nat) : Int) > 0)
    · exact ⟨e2, hv⟩
    · cases (spec_l1Once (Cur.mk v.1 v.2.1 v.2.2.1) 3).1
      · exact ⟨e2, hv⟩
      · exact ⟨e2, by simp only [cond_true, List.length_set]; exact hv⟩
def slices_Equal_SAttr_Attr_b1 (p1 : (List Attr)) (i1 : Nat) (s1 : Unit) (a1 : Attr) : Step (Unit) Bool :=
  (bif (!((decide (a1.Key = (p1[i1]?.getD default).Key)) && ((a1.Num == (p1[i1]?.getD default).Num) && ((a1.N == (p1[i1]?.getD default).N) && ((decide (a1.Text = (p1[i1]?.getD default).Text)) && true))))) then (.done false) else (.next ()))
def slices_Equal_SAttr_Attr (p0 : (List Attr)) (p1 : (List Attr)) : Bool :=
  (bif ((((p0).length : Nat) : Int) != (((p1).length : Nat) : Int)) then false else (Fin.get (fun s1 => true) (loopL (slices_Equal_SAttr_Attr_b1 p1) 0 () p0)))
theorem c_slices_Equal_SAttr_Attr (p0 : (List Attr)) (p1 : (List Attr)) : FnOk prog 140 [.one (.s false 4 (List.map Attr.cells p0)), .one (.s false 4 (List.map Attr.cells p1))] ⟨.one (.v (.bool (slices_Equal_SAttr_Attr p0 p1))), [], [], false⟩ := by
  refine FnOk.intro (E := env) envOk wide func140 rfl (by kernel_rfl) rfl rfl ?_
  have hg := slices_Equal_SAttr_Attr.eq_1 p0 p1
  have hown : ∀ g : Bool, AV.Own (AV.one (.v (.bool g))) := fun g => .v _
  refine seqE ?_
  refine seqE ?_
  refine seqE ?_
  refine lenM fun hN1 => ?_
  refine lenM fun hN2 => ?_
  refine brW hg (fun hg h3 => ?_) (fun hg h3 => ?_)
  · refine seqE ?_
    exact leafE hown hg
  · refine seqE ?_
    refine seqE ?_
    refine lenM fun hN4 => ?_
    refine loopLE hg [0, 1, 12] (fun x1 => [(13, .one (.v (.int .i64 ((x1.i : Nat) : Int))))]) (fun x1 => []) [] ?_ (fun x1 => ?_)
    · exact ⟨rfl, ⟨rfl, rfl, rfl, rfl, trivial⟩, trivial, trivial⟩
    refine seqE ?_
    refine seqE ?_
    refine tstL (fun hi1 => ?_) (fun hi1 => ?_)
    · have hb1 := (x1.bdy hi1).trans (slices_Equal_SAttr_Attr_b1.eq_1 ..)
      have hw1 := wrap_succ hi1 (by first | assumption | omega)
      refine seqE ?_
      refine seqE ?_
      refine seqE ?_
      refine .inl ⟨by kernel_rfl, ?_⟩
      refine idxAt hi1 ?_
      refine idxOf (l := p1) (by (first | omega | (simp (disch := omega) only [wrap_small, mid_eq, List.length_map]; omega) | (simp; done) | (simp; omega) | (simp at *; omega) | (simp at *; done) | (simp_all; done) | (simp_all; omega))) (fun hq5 => ?_)
      refine brE hb1 (fun hb1 h6 => ?_) (fun hb1 h6 => x1.goE hi1 hb1 [] ⟨rfl, ⟨(eqInt hw1), rfl, rfl, rfl, trivial⟩, trivial, trivial⟩)
      refine seqE ?_
      have hg := donE hg (x1.outD hi1 hb1)
      exact leafE hown hg
    have hg := finE hg (x1.fin hi1)
    refine seqE ?_
    exact leafE hown hg
def impl_SameSpan (p0 : Span) (p1 : Span) : Bool :=
  (bif (p0.Trace == p1.Trace) then (bif (p0.Id == p1.Id) then (bif (p0.Start == p1.Start) then (bif (p0.End == p1.End) then (bif (p0.Err == p1.Err) then (slices_Equal_SAttr_Attr p0.Attrs p1.Attrs) else false) else false) else false) else false) else false)
theorem c_impl_SameSpan (p0 : Span) (p1 : Span) : FnOk prog 98 [.agg ((Span.cells false) p0), .agg ((Span.cells false) p1)] ⟨.one (.v (.bool (impl_SameSpan p0 p1))), [], [], false⟩ := by
  refine FnOk.intro (E := env) envOk wide func98 rfl (by kernel_rfl) rfl rfl ?_
  have hg := impl_SameSpan.eq_1 p0 p1
  have hown : ∀ g : Bool, AV.Own (AV.one (.v (.bool g))) := fun g => .v _
  refine seqE ?_
  refine litE (m := 0) rfl ?_
  refine litE (m := 1) rfl ?_
  refine seqE ?_
  refine brQ hg (fun hg h1 => ?_) (fun hg h1 => leafE hown hg)
  refine brQ hg (fun hg h2 => ?_) (fun hg h2 => leafE hown hg)
  refine brQ hg (fun hg h3 => ?_) (fun hg h3 => leafE hown hg)
  refine brQ hg (fun hg h4 => ?_) (fun hg h4 => leafE hown hg)
  refine brE hg (fun hg h5 => ?_) (fun hg h5 => leafE hown hg)
  refine .inl (⟨_, _, c_slices_Equal_SAttr_Attr p0.Attrs p1.Attrs, (FzAs.same _), ?_⟩)
  refine litE (m := 3) rfl ?_
  exact leafE hown hg
def impl_SameBag_1_b1 (p1 : Span) (i1 : Nat) (s1 : Int) (a1 : Span) : Step (Int) Int :=
  (bif (impl_SameSpan a1 p1) then (.next (IntKind.i64.wrap (s1 + 1))) else (.next s1))
def impl_SameBag_1 (p0 : (List Span)) (p1 : Span) : Int :=
  (Fin.get (fun s1 => s1) (loopL (impl_SameBag_1_b1 p1) 0 0 p0))
theorem c_impl_SameBag_1 (p0 : (List Span)) (p1 : Span) : FnOk prog 97 [.one (.s false 6 (List.map (Span.cells false) p0)), .agg ((Span.cells false) p1)] ⟨.one (.v (.int .i64 (impl_SameBag_1 p0 p1))), [], [], false⟩ := by
  refine FnOk.intro (E := env) envOk wide func97 rfl (by kernel_rfl) rfl rfl ?_
  have hg := impl_SameBag_1.eq_1 p0 p1
  have hown : ∀ g : Int, AV.Own (AV.one (.v (.int .i64 g))) := fun g => .v _
  refine seqE ?_
  refine litE (m := 0) rfl ?_
  refine seqE ?_
  refine seqE ?_
  refine seqE ?_
  refine lenM fun hN1 => ?_
  refine loopLE hg [3, 8, 9] (fun x1 => [(5, .one (.v (.int .i64 x1.s))), (10, .one (.v (.int .i64 ((x1.i : Nat) : Int))))]) (fun x1 => [.keep 0]) [some 0] ?_ (fun x1 => ?_)
  · exact ⟨rfl, ⟨rfl, rfl, ⟨rfl, rfl, rfl, rfl⟩, rfl, rfl, trivial⟩, ⟨⟨rfl, rfl, ⟨rfl, rfl, rfl, rfl, rfl, rfl, trivial⟩⟩, trivial⟩, trivial⟩
  refine seqE ?_
  refine seqE ?_
  refine tstL (fun hi1 => ?_) (fun hi1 => ?_)
  · have hb1 := (x1.bdy hi1).trans (impl_SameBag_1_b1.eq_1 ..)
    have hw1 := wrap_succ hi1 (by first | assumption | omega)
    refine seqE ?_
    refine seqE ?_
    refine idxAt hi1 ?_
    refine litE (m := 1) rfl ?_
    refine seqE ?_
    refine .inl (⟨_, _, c_impl_SameSpan (p0[x1.i]'hi1) p1, (FzAs.same _), ?_⟩)
    refine litE (m := 3) rfl ?_
    exact brE hb1 (fun hb1 h2 => x1.goE hi1 hb1 [some 0] ⟨rfl, ⟨rfl, (eqInt hw1), ⟨rfl, rfl, rfl, rfl⟩, rfl, rfl, trivial⟩, ⟨⟨rfl, rfl, ⟨rfl, rfl, rfl, rfl, rfl, rfl, trivial⟩⟩, trivial⟩, trivial⟩) (fun hb1 h2 => x1.goE hi1 hb1 [some 0] ⟨rfl, ⟨rfl, (eqInt hw1), ⟨rfl, rfl, rfl, rfl⟩, rfl, rfl, trivial⟩, ⟨⟨rfl, rfl, ⟨rfl, rfl, rfl, rfl, rfl, rfl, trivial⟩⟩, trivial⟩, trivial⟩)
  have hg := finE hg (x1.fin hi1)
  refine seqE ?_
  exact leafE hown hg
def impl_SameBag_b1 (p0 : (List Span)) (p1 : (List Span)) (i1 : Nat) (s1 : Unit) (a1 : Span) : Step (Unit) Bool :=
  (bif ((impl_SameBag_1 p0 a1) != (impl_SameBag_1 p1 a1)) then (.done false) else (.next ()))
def impl_SameBag (p0 : (List Span)) (p1 : (List Span)) : Bool :=
  (Fin.get (fun s1 => ((((p0).length : Nat) : Int) == (((p1).length : Nat) : Int))) (loopL (impl_SameBag_b1 p0 p1) 0 () p0))
theorem c_impl_SameBag (p0 : (List Span)) (p1 : (List Span)) : FnOk prog 36 [.one (.s false 6 (List.map (Span.cells false) p0)), .one (.s false 6 (List.map (Span.cells false) p1))] ⟨.one (.v (.bool (impl_SameBag p0 p1))), [], [], false⟩ := by
  refine FnOk.intro (E := env) envOk wide func36 rfl (by kernel_rfl) rfl rfl ?_
  have hg := impl_SameBag.eq_1 p0 p1
  have hown : ∀ g : Bool, AV.Own (AV.one (.v (.bool g))) := fun g => .v _
  refine seqE ?_
  refine seqE ?_
  refine seqE ?_
  refine seqE ?_
  refine lenM fun hN1 => ?_
  refine loopLE hg [0, 1, 5, 8, 9] (fun x1 => [(10, .one (.v (.int .i64 ((x1.i : Nat) : Int))))]) (fun x1 => []) [] ?_ (fun x1 => ?_)
  · exact ⟨rfl, ⟨rfl, rfl, rfl, ⟨rfl, trivial⟩, rfl, rfl, trivial⟩, trivial, trivial⟩
  refine seqE ?_
  refine seqE ?_
  refine tstL (fun hi1 => ?_) (fun hi1 => ?_)
  · have hb1 := (x1.bdy hi1).trans (impl_SameBag_b1.eq_1 ..)
    have hw1 := wrap_succ hi1 (by first | assumption | omega)
    refine seqE ?_
    refine seqE ?_
    refine idxAt hi1 ?_
    refine litE (m := 0) rfl ?_
    refine seqE ?_
    refine .inl ⟨by kernel_rfl, ?_⟩
    refine ⟨_, _, c_impl_SameBag_1 p0 (p0[x1.i]'hi1), (FzAs.same _), ?_⟩
    refine ⟨_, _, c_impl_SameBag_1 p1 (p0[x1.i]'hi1), (FzAs.same _), ?_⟩
    refine brW hb1 (fun hb1 h2 => ?_) (fun hb1 h2 => x1.goE hi1 hb1 [] ⟨rfl, ⟨(eqInt hw1), rfl, rfl, ⟨rfl, trivial⟩, rfl, rfl, trivial⟩, trivial, trivial⟩)
    refine seqE ?_
    have hg := donE hg (x1.outD hi1 hb1)
    exact leafE hown hg
  have hg := finE hg (x1.fin hi1)
  refine seqE ?_
  refine lenM fun hN3 => ?_
  refine lenM fun hN4 => ?_
  exact leafE hown hg
def spec_SameSpan_b1 (p1 : Span) (i1 : Nat) (s1 : Unit) (a1 : Attr) : Step (Unit) Bool :=
  (bif (!((decide (a1.Key = (p1.Attrs[i1]?.getD default).Key)) && ((a1.Num == (p1.Attrs[i1]?.getD default).Num) && ((a1.N == (p1.Attrs[i1]?.getD default).N) && ((decide (a1.Text = (p1.Attrs[i1]?.getD default).Text)) && true))))) then (.done false) else (.next ()))
def spec_SameSpan (p0 : Span) (p1 : Span) : Bool :=
  (bif (p0.Trace != p1.Trace) then false else (bif (p0.Id != p1.Id) then false else (bif (p0.Start != p1.Start) then false else (bif (p0.End != p1.End) then false else (bif (!(p0.Err == p1.Err)) then false else (bif ((((p0.Attrs).length : Nat) : Int) != (((p1.Attrs).length : Nat) : Int)) then false else (Fin.get (fun s1 => true) (loopL (spec_SameSpan_b1 p1) 0 () p0.Attrs))))))))
theorem c_spec_SameSpan (p0 : Span) (p1 : Span) : FnOk prog 99 [.agg ((Span.cells false) p0), .agg ((Span.cells false) p1)] ⟨.one (.v (.bool (spec_SameSpan p0 p1))), [], [], false⟩ := by
  refine FnOk.intro (E := env) envOk wide func99 rfl (by kernel_rfl) rfl rfl ?_
  have hg := spec_SameSpan.eq_1 p0 p1
  have hown : ∀ g : Bool, AV.Own (AV.one (.v (.bool g))) := fun g => .v _
  refine seqE ?_
  refine litE (m := 0) rfl ?_
  refine litE (m := 1) rfl ?_
  refine seqE ?_
  refine seqE ?_
  refine brWF hg (fun hg h1 => ?_) (fun hg h1 => ?_)
  · refine brWF hg (fun hg h2 => ?_) (fun hg h2 => ?_)
    · refine brWF hg (fun hg h3 => ?_) (fun hg h3 => ?_)
      · refine brWF hg (fun hg h4 => ?_) (fun hg h4 => ?_)
        · refine brF hg (fun hg h5 => ?_) (fun hg h5 => ?_)
          · refine lenM fun hN6 => ?_
            refine lenM fun hN7 => ?_
            refine brW hg (fun hg h8 => ?_) (fun hg h8 => ?_)
            · refine seqE ?_
              exact leafE hown hg
            · refine seqE ?_
              refine seqE ?_
              refine loopLE hg [2, 3] (fun x1 => [(5, .one (.v (.int .i64 ((x1.i : Nat) : Int))))]) (fun x1 => [.keep 0, .keep 1]) [some 0, some 1] ?_ (fun x1 => ?_)
              · exact ⟨rfl, ⟨rfl, ⟨rfl, rfl, rfl, rfl⟩, ⟨rfl, rfl, rfl, rfl⟩, trivial⟩, ⟨⟨rfl, rfl, ⟨rfl, rfl, rfl, rfl, rfl, rfl, trivial⟩⟩, ⟨rfl, rfl, ⟨rfl, rfl, rfl, rfl, rfl, rfl, trivial⟩⟩, trivial⟩, trivial⟩
              refine seqE ?_
              refine seqE ?_
              refine lenM fun hN9 => ?_
              refine tstL (fun hi1 => ?_) (fun hi1 => ?_)
              · have hb1 := (x1.bdy hi1).trans (spec_SameSpan_b1.eq_1 ..)
                have hw1 := wrap_succ hi1 (by first | assumption | omega)
                refine seqE ?_
                refine seqE ?_
                refine .inl ⟨by kernel_rfl, ?_⟩
                refine idxAt hi1 ?_
                refine idxOf (l := p1.Attrs) (by (first | omega | (simp (disch := omega) only [wrap_small, mid_eq, List.length_map]; omega) | (simp; done) | (simp; omega) | (simp at *; omega) | (simp at *; done) | (simp_all; done) | (simp_all; omega))) (fun hq10 => ?_)
                refine brE hb1 (fun hb1 h11 => ?_) (fun hb1 h11 => x1.goE hi1 hb1 [some 0, some 1] ⟨rfl, ⟨(eqInt hw1), ⟨rfl, rfl, rfl, rfl⟩, ⟨rfl, rfl, rfl, rfl⟩, trivial⟩, ⟨⟨rfl, rfl, ⟨rfl, rfl, rfl, rfl, rfl, rfl, trivial⟩⟩, ⟨rfl, rfl, ⟨rfl, rfl, rfl, rfl, rfl, rfl, trivial⟩⟩, trivial⟩, trivial⟩)
                refine seqE ?_
                have hg := donE hg (x1.outD hi1 hb1)
                exact leafE hown hg
              have hg := finE hg (x1.fin hi1)
              refine seqE ?_
              exact leafE hown hg
          · refine seqE ?_
            exact leafE hown hg
        · refine seqE ?_
          exact leafE hown hg
      · refine seqE ?_
        exact leafE hown hg
    · refine seqE ?_
      exact leafE hown hg
  · refine seqE ?_
    exact leafE hown hg
def spec_SameBag_j3 (a2 : Span) (a1 : Span) (s2 : Int) : Step (Int) (Step (Int) (Step (Unit) Bool)) :=
  (bif (spec_SameSpan a2 a1) then (.next (IntKind.i64.wrap (s2 + 1))) else (.next s2))
def spec_SameBag_b2 (p1 : (List Span)) (a1 : Span) (i2 : Nat) (s2 : Int) (a2 : Span) : Step (Int) (Step (Unit) Bool) :=
  (Step.get (fun s3 => (bif (spec_SameSpan (p1[i2]?.getD default) a1) then (.next (IntKind.i64.wrap (s3 - 1))) else (.next s3))) (spec_SameBag_j3 a2 a1 s2))
def spec_SameBag_b1 (p1 : (List Span)) (p0 : (List Span)) (i1 : Nat) (s1 : Unit) (a1 : Span) : Step (Unit) Bool :=
  (Fin.get (fun s2 => (bif (s2 != 0) then (.done false) else (.next ()))) (loopL (spec_SameBag_b2 p1 a1) 0 0 p0))
def spec_SameBag (p0 : (List Span)) (p1 : (List Span)) : Bool :=
  (bif ((((p0).length : Nat) : Int) != (((p1).length : Nat) : Int)) then false else (Fin.get (fun s1 => true) (loopL (spec_SameBag_b1 p1 p0) 0 () p0)))
theorem c_spec_SameBag (p0 : (List Span)) (p1 : (List Span)) : FnOk prog 37 [.one (.s false 6 (List.map (Span.cells false) p0)), .one (.s false 6 (List.map (Span.cells false) p1))] ⟨.one (.v (.bool (spec_SameBag p0 p1))), [], [], false⟩ := by
  refine FnOk.intro (E := env) envOk wide func37 rfl (by kernel_rfl) rfl rfl ?_
  have hg := spec_SameBag.eq_1 p0 p1
  have hown : ∀ g : Bool, AV.Own (AV.one (.v (.bool g))) := fun g => .v _
  refine seqE ?_
  refine seqE ?_
  refine seqE ?_
  refine lenM fun hN1 => ?_
  refine lenM fun hN2 => ?_
  refine brW hg (fun hg h3 => ?_) (fun hg h3 => ?_)
  · refine seqE ?_
    exact leafE hown hg
  · refine seqE ?_
    refine seqE ?_
    refine loopLE hg [0, 1] (fun x1 => [(5, .one (.v (.int .i64 ((x1.i : Nat) : Int))))]) (fun x1 => []) [] ?_ (fun x1 => ?_)
    · exact ⟨rfl, ⟨rfl, rfl, rfl, trivial⟩, trivial, trivial⟩
    refine seqE ?_
    refine seqE ?_
    refine lenM fun hN4 => ?_
    refine tstL (fun hi1 => ?_) (fun hi1 => ?_)
    · have hb1 := (x1.bdy hi1).trans (spec_SameBag_b1.eq_1 ..)
      have hw1 := wrap_succ hi1 (by first | assumption | omega)
      refine seqE ?_
      refine seqE ?_
      refine seqE ?_
      refine seqE ?_
      refine loopLE hb1 [0, 1, 5] (fun x2 => [(6, .one (.v (.int .i64 x2.s))), (7, .one (.v (.int .i64 ((x2.i : Nat) : Int))))]) (fun x2 => []) [] ?_ (fun x2 => ?_)
      · exact ⟨rfl, ⟨rfl, rfl, rfl, rfl, rfl, trivial⟩, trivial, trivial⟩
      refine seqE ?_
      refine seqE ?_
      refine lenM fun hN5 => ?_
      refine tstL (fun hi2 => ?_) (fun hi2 => ?_)
      · have hb2 := (x2.bdy hi2).trans (spec_SameBag_b2.eq_1 ..)
        have hw2 := wrap_succ hi2 (by first | assumption | omega)
        refine seqE ?_
        refine joinE hb2 [0, 1, 5, 7] (fun x3 => [(6, .one (.v (.int .i64 x3.s)))]) (fun x3 => []) (fun hb3 => ?_) (fun x3 hb2 => ?_)
        · have hb3 := hb3.trans (spec_SameBag_j3.eq_1 ..)
          refine seqE ?_
          refine .inl ⟨by kernel_rfl, ?_⟩
          refine idxAt hi2 ?_
          refine idxAt hi1 ?_
          refine ⟨_, _, c_spec_SameSpan (p0[x2.i]'hi2) (p0[x1.i]'hi1), (FzAs.same _), ?_⟩
          exact brE hb3 (fun hb3 h6 => .inl ⟨⟨_, hb3⟩, [], ⟨rfl, ⟨rfl, rfl, rfl, rfl, rfl, trivial⟩, trivial, trivial⟩⟩) (fun hb3 h6 => .inl ⟨⟨_, hb3⟩, [], ⟨rfl, ⟨rfl, rfl, rfl, rfl, rfl, trivial⟩, trivial, trivial⟩⟩)
        refine seqE ?_
        refine .inl ⟨by kernel_rfl, ?_⟩
        refine idxOf (l := p1) (by (first | omega | (simp (disch := omega) only [wrap_small, mid_eq, List.length_map]; omega) | (simp; done) | (simp; omega) | (simp at *; omega) | (simp at *; done) | (simp_all; done) | (simp_all; omega))) (fun hq7 => ?_)
        refine idxAt hi1 ?_
        refine ⟨_, _, c_spec_SameSpan (p1[x2.i]?.getD default) (p0[x1.i]'hi1), (FzAs.same _), ?_⟩
        exact brE hb2 (fun hb2 h8 => x2.goE hi2 hb2 [] ⟨rfl, ⟨rfl, (eqInt hw2), rfl, rfl, rfl, trivial⟩, trivial, trivial⟩) (fun hb2 h8 => x2.goE hi2 hb2 [] ⟨rfl, ⟨rfl, (eqInt hw2), rfl, rfl, rfl, trivial⟩, trivial, trivial⟩)
      have hb1 := finE hb1 (x2.fin hi2)
      refine seqE ?_
      refine brW hb1 (fun hb1 h9 => ?_) (fun hb1 h9 => x1.goE hi1 hb1 [] ⟨rfl, ⟨(eqInt hw1), rfl, rfl, trivial⟩, trivial, trivial⟩)
      refine seqE ?_
      have hg := donE hg (x1.outD hi1 hb1)
      exact leafE hown hg
    have hg := finE hg (x1.fin hi1)
    refine seqE ?_
    exact leafE hown hg
def laws_FnBags_b1 (p0 : (List Int)) (s1 : (List Span) × Int) : Step ((List Span) × Int) Bool :=
  (bif (decide (s1.2 ≥ 0)) then (.next ((s1.1 ++ [((spec_DrawSameBag p0).1[(s1.2).toNat]?.getD default)]), (IntKind.i64.wrap (s1.2 - 1)))) else (.stop (s1.1, s1.2)))
def laws_FnBags (p0 : (List Int)) : Bool :=
  (bif (laws_big p0) then true else (Fin.get (fun s1 => (bif ((impl_SameBag (spec_DrawSameBag p0).1 (spec_DrawSameBag p0).2) == (spec_SameBag (spec_DrawSameBag p0).1 (spec_DrawSameBag p0).2)) then (bif ((impl_SameBag (spec_DrawSameBag p0).1 (spec_DrawSameBag p0).2) == (impl_SameBag (spec_DrawSameBag p0).2 (spec_DrawSameBag p0).1)) then (bif ((impl_SameBag (spec_DrawSameBag p0).1 (spec_DrawSameBag p0).2) == (impl_SameBag s1.1 (spec_DrawSameBag p0).2)) then (bif (impl_SameBag (spec_DrawSameBag p0).1 s1.1) then (bif (((((spec_DrawSameBag p0).1).length : Nat) : Int) == 0) then true else (!(impl_SameBag (spec_DrawSameBag p0).1 (s1.1 ++ [((spec_DrawSameBag p0).1[0]?.getD default)])))) else false) else false) else false) else false)) (loopW (laws_FnBags_b1 p0) ((fun s : List Span × Int => (s.2 + 1).toNat) (([] : List Span), (IntKind.i64.wrap (((((spec_DrawSameBag p0).1).length : Nat) : Int) - 1)))) (([] : List Span), (IntKind.i64.wrap (((((spec_DrawSameBag p0).1).length : Nat) : Int) - 1))))))
theorem c_laws_FnBags (p0 : (List Int)) (hw0 : bdS (fun _ _ => True) 9223372036854775807 p0) : FnOk prog 6 [.one (.s false 1 (List.map cU8 p0))] ⟨.one (.v (.bool (laws_FnBags p0))), [], [], false⟩ := by
  refine FnOk.intro (E := env) envOk wide func6 rfl (by kernel_rfl) rfl rfl ?_
  have hg := laws_FnBags.eq_1 p0
  have hown : ∀ g : Bool, AV.Own (AV.one (.v (.bool g))) := fun g => .v _
  refine seqE ?_
  refine seqE ?_
  refine seqE ?_
  refine .inl (⟨_, _, c_laws_big p0, (FzAs.same _), ?_⟩)
  refine litE (m := 1) rfl ?_
  refine brE hg (fun hg h1 => ?_) (fun hg h1 => ?_)
  · refine seqE ?_
    exact leafE hown hg
  · refine seqE ?_
    refine .inl (⟨_, _, (FnOk.frz2 rfl (frzMap frz_Span _) (frzMap frz_Span _) (c_spec_DrawSameBag p0 (by exact (bigBd h1)))), (FzAs.same _), ?_⟩)
    refine litE (m := 2) rfl ?_
    refine seqE ?_
    refine .inl (litE (m := 2) rfl ?_)
    refine seqE ?_
    refine seqE ?_
    refine lenM fun hN2 => ?_
    refine loopWE (m := (fun s : List Span × Int => (s.2 + 1).toNat)) (s0 := (([] : List Span), (IntKind.i64.wrap (((((spec_DrawSameBag p0).1).length : Nat) : Int) - 1)))) (fun s : List Span × Int => -1 ≤ s.2 ∧ s.2 < ((spec_DrawSameBag p0).1.length : Int) ∧ (s.1.length : Int) + s.2 + 1 ≤ 8) hg (by have d1 := drawBag_ok (p0 := p0) (bigBd h1); have d2 := d1.1; exact ⟨by (first | omega | (dsimp only <;> omega) | (simp (disch := omega) only [wrap_small, mid_eq, mid_eq1, mid_eq2, mid_eq3, List.length_map, List.length_set] <;> omega) | (simp (disch := omega) only [wrap_small, mid_eq, mid_eq1, mid_eq2, mid_eq3, List.length_map, List.length_set] at * <;> omega)), by (first | omega | (dsimp only <;> omega) | (simp (disch := omega) only [wrap_small, mid_eq, mid_eq1, mid_eq2, mid_eq3, List.length_map, List.length_set] <;> omega) | (simp (disch := omega) only [wrap_small, mid_eq, mid_eq1, mid_eq2, mid_eq3, List.length_map, List.length_set] at * <;> omega)), by (try simp only [List.length_nil]); (first | omega | (dsimp only <;> omega) | (simp (disch := omega) only [wrap_small, mid_eq, mid_eq1, mid_eq2, mid_eq3, List.length_map, List.length_set] <;> omega) | (simp (disch := omega) only [wrap_small, mid_eq, mid_eq1, mid_eq2, mid_eq3, List.length_map, List.length_set] at * <;> omega))⟩) [3, 4] (fun x1 => [(5, .one (.n 2 [] 1 0 (x1.s.1).length)), (6, .one (.v (.int .i64 x1.s.2)))]) (fun x1 => [.dead, .dead, .new ⟨6, false, List.map (Span.cells false) x1.s.1, 0⟩]) [none, none, some 2] ?_ (fun x1 => ?_)
    · exact ⟨rfl, ⟨⟨rfl, rfl, rfl, rfl, by (first | rfl | omega | (dsimp only; omega) | (simp; done) | (simp; omega) | (simp [LstSt.init, LstSt.step, LstInv.init, CntSt.init, CntSt.step, CntInv.init, WhlSt.init, WhlSt.step]; done) | (simp [LstSt.init, LstSt.step, LstInv.init, CntSt.init, CntSt.step, CntInv.init, WhlSt.init, WhlSt.step]; omega))⟩, rfl, rfl, rfl, trivial⟩, ⟨⟨rfl, rfl, rfl⟩, trivial⟩, trivial⟩
    have hI1 := x1.hI
    try dsimp only at hI1
    have hb1 := x1.bdy.trans (laws_FnBags_b1.eq_1 ..)
    refine seqE ?_
    refine seqE ?_
    refine brD hb1 (fun hb1 h3 => ?_) (fun hb1 h3 => ?_)
    · refine seqE ?_
      refine idxOf (l := (spec_DrawSameBag p0).1) (by have d1 := drawBag_ok (p0 := p0) (bigBd h1); have d2 := d1.1; have f1 := hI1; first | omega | (first | omega | (dsimp only <;> omega) | (simp (disch := omega) only [wrap_small, mid_eq, mid_eq1, mid_eq2, mid_eq3, List.length_map, List.length_set] <;> omega) | (simp (disch := omega) only [wrap_small, mid_eq, mid_eq1, mid_eq2, mid_eq3, List.length_map, List.length_set] at * <;> omega)) | (simp at *; omega)) (fun hq4 => ?_)
      refine .inl (litE (m := 3) rfl ?_)
      refine .inr ?_
      refine rowsE (Y := List.map (Span.cells false) (x1.s.1 ++ [((spec_DrawSameBag p0).1[(x1.s.2).toNat]?.getD default)])) (by first | rfl | (simp [subR0, subR1, -List.map_take, -List.map_drop, take_map', drop_map', fz_Span, fzMap fz_Span, shMap sh_Span]; done) | (simp [subR0, subR1, -List.map_take, -List.map_drop, take_map', drop_map', fz_Span, fzMap fz_Span, shMap sh_Span]; rfl)) ?_
      refine appB (b := 64) (hs := by have d1 := drawBag_ok (p0 := p0) (bigBd h1); have d2 := d1.1; have f1 := hI1; refine ⟨?_, ?_⟩; (show List.length _ * 64 ≤ _); (try simp only [List.length_append, List.length_cons, List.length_nil]); omega; (try simp only [List.length_append, List.length_cons, List.length_nil]); omega) ?_
      refine litE (m := 4) rfl ?_
      exact x1.goE hb1 (show (fun s : List Span × Int => -1 ≤ s.2 ∧ s.2 < ((spec_DrawSameBag p0).1.length : Int) ∧ (s.1.length : Int) + s.2 + 1 ≤ 8) ((x1.s.1 ++ [((spec_DrawSameBag p0).1[(x1.s.2).toNat]?.getD default)]), (IntKind.i64.wrap (x1.s.2 - 1))) ∧ (fun s : List Span × Int => (s.2 + 1).toNat) ((x1.s.1 ++ [((spec_DrawSameBag p0).1[(x1.s.2).toNat]?.getD default)]), (IntKind.i64.wrap (x1.s.2 - 1))) < (fun s : List Span × Int => (s.2 + 1).toNat) x1.s by have d1 := drawBag_ok (p0 := p0) (bigBd h1); have d2 := d1.1; have f1 := hI1; exact ⟨⟨by (first | omega | (dsimp only <;> omega) | (simp (disch := omega) only [wrap_small, mid_eq, mid_eq1, mid_eq2, mid_eq3, List.length_map, List.length_set] <;> omega) | (simp (disch := omega) only [wrap_small, mid_eq, mid_eq1, mid_eq2, mid_eq3, List.length_map, List.length_set] at * <;> omega)), by (first | omega | (dsimp only <;> omega) | (simp (disch := omega) only [wrap_small, mid_eq, mid_eq1, mid_eq2, mid_eq3, List.length_map, List.length_set] <;> omega) | (simp (disch := omega) only [wrap_small, mid_eq, mid_eq1, mid_eq2, mid_eq3, List.length_map, List.length_set] at * <;> omega)), by (try simp only [List.length_append, List.length_cons, List.length_nil]); (first | omega | (dsimp only <;> omega) | (simp (disch := omega) only [wrap_small, mid_eq, mid_eq1, mid_eq2, mid_eq3, List.length_map, List.length_set] <;> omega) | (simp (disch := omega) only [wrap_small, mid_eq, mid_eq1, mid_eq2, mid_eq3, List.length_map, List.length_set] at * <;> omega))⟩, by (first | omega | (dsimp only <;> omega) | (simp (disch := omega) only [wrap_small, mid_eq, mid_eq1, mid_eq2, mid_eq3, List.length_map, List.length_set] <;> omega) | (simp (disch := omega) only [wrap_small, mid_eq, mid_eq1, mid_eq2, mid_eq3, List.length_map, List.length_set] at * <;> omega))⟩) [none, none, some 4] ⟨rfl, ⟨⟨rfl, rfl, rfl, rfl, by (first | rfl | omega | (dsimp only; omega) | (simp; done) | (simp; omega) | (simp [LstSt.init, LstSt.step, LstInv.init, CntSt.init, CntSt.step, CntInv.init, WhlSt.init, WhlSt.step]; done) | (simp [LstSt.init, LstSt.step, LstInv.init, CntSt.init, CntSt.step, CntInv.init, WhlSt.init, WhlSt.step]; omega))⟩, rfl, rfl, rfl, trivial⟩, ⟨⟨rfl, rfl, rfl⟩, trivial⟩, trivial⟩
    · have hg := finE hg (x1.outS hb1)
      refine seqE ?_
      refine .inl (⟨_, _, c_impl_SameBag (spec_DrawSameBag p0).1 (spec_DrawSameBag p0).2, (FzAs.same _), ?_⟩)
      refine litE (m := 4) rfl ?_
      refine seqE ?_
      refine .inl (⟨_, _, c_spec_SameBag (spec_DrawSameBag p0).1 (spec_DrawSameBag p0).2, (FzAs.same _), ?_⟩)
      refine litE (m := 5) rfl ?_
      refine brE hg (fun hg h5 => ?_) (fun hg h5 => leafE hown hg)
      refine .inl (⟨_, _, c_impl_SameBag (spec_DrawSameBag p0).2 (spec_DrawSameBag p0).1, (FzAs.same _), ?_⟩)
      refine litE (m := 6) rfl ?_
      refine brE hg (fun hg h6 => ?_) (fun hg h6 => leafE hown hg)
      refine .inl (⟨_, _, c_impl_SameBag x1.s.1 (spec_DrawSameBag p0).2, (FzAs.same _), ?_⟩)
      refine litE (m := 7) rfl ?_
      refine brE hg (fun hg h7 => ?_) (fun hg h7 => leafE hown hg)
      refine .inl (⟨_, _, c_impl_SameBag (spec_DrawSameBag p0).1 x1.s.1, (FzAs.same _), ?_⟩)
      refine litE (m := 8) rfl ?_
      refine brE hg (fun hg h8 => ?_) (fun hg h8 => leafE hown hg)
      refine lenM fun hN9 => ?_
      refine brQF hg (fun hg h10 => ?_) (fun hg h10 => leafE hown hg)
      refine idxOf (l := (spec_DrawSameBag p0).1) (by have d1 := drawBag_ok (p0 := p0) (bigBd h1); have d2 := d1.1; have f1 := hI1; first | omega | (first | omega | (dsimp only <;> omega) | (simp (disch := omega) only [wrap_small, mid_eq, mid_eq1, mid_eq2, mid_eq3, List.length_map, List.length_set] <;> omega) | (simp (disch := omega) only [wrap_small, mid_eq, mid_eq1, mid_eq2, mid_eq3, List.length_map, List.length_set] at * <;> omega)) | (simp at *; omega)) (fun hq11 => ?_)
      refine .inl (litE (m := 8) rfl ?_)
      refine .inr ?_
      refine rowsE (Y := List.map (Span.cells false) (x1.s.1 ++ [((spec_DrawSameBag p0).1[0]?.getD default)])) (by first | rfl | (simp [subR0, subR1, -List.map_take, -List.map_drop, take_map', drop_map', fz_Span, fzMap fz_Span, shMap sh_Span]; done) | (simp [subR0, subR1, -List.map_take, -List.map_drop, take_map', drop_map', fz_Span, fzMap fz_Span, shMap sh_Span]; rfl)) ?_
      refine appB (b := 64) (hs := by have d1 := drawBag_ok (p0 := p0) (bigBd h1); have d2 := d1.1; have f1 := hI1; refine ⟨?_, ?_⟩; (show List.length _ * 64 ≤ _); (try simp only [List.length_append, List.length_cons, List.length_nil]); omega; (try simp only [List.length_append, List.length_cons, List.length_nil]); omega) ?_
      refine litE (m := 9) rfl ?_
      refine .inl (⟨_, _, c_impl_SameBag (spec_DrawSameBag p0).1 (x1.s.1 ++ [((spec_DrawSameBag p0).1[0]?.getD default)]), (FzAs.same _), ?_⟩)
      refine litE (m := 11) rfl ?_
      exact leafE hown hg
theorem main_SameSpan (a b : Span) : spec_SameSpan a b = impl_SameSpan a b := by
  unfold spec_SameSpan impl_SameSpan slices_Equal_SAttr_Attr
  have e : spec_SameSpan_b1 b = slices_Equal_SAttr_Attr_b1 b.Attrs := rfl
  rw [e]
  simp only [bne]
  cases (a.Trace == b.Trace) <;> cases (a.Id == b.Id) <;> cases (a.Start == b.Start) <;> cases (a.End == b.End) <;> cases (a.Err == b.Err) <;> rfl
theorem count_loop {α ρ : Type} {p : α → Bool} {b : Nat → Int → α → Step Int ρ} (hb : ∀ i s a, b i s a = bif p a then .next (IntKind.i64.wrap (s + 1)) else .next s) : ∀ (l : List α) (i : Nat) (s : Int), 0 ≤ s → s + (l.length : Int) ≤ 4611686018427387904 → loopL b i s l = .fin (s + ((l.countP p : Nat) : Int))
  | [], i, s, h0, h1 => by simp [loopL]
  | a :: l, i, s, h0, h1 => by
    simp only [List.length_cons, Int.natCast_add, Int.cast_ofNat_Int] at h1
    unfold loopL
    rw [hb, List.countP_cons]
    cases p a with
    | true =>
      simp only [cond_true, if_true]
      rw [wrap_small (by omega) (by omega), count_loop hb l (i + 1) (s + 1) (by omega) (by omega)]
      congr 1
      omega
    | false =>
      simp only [cond_false]
      rw [count_loop hb l (i + 1) s h0 (by omega)]
      simp
theorem diff_loop {α ρ : Type} [Inhabited α] {p : α → Bool} {q : List α} {b : Nat → Int → α → Step Int ρ} (hb : ∀ i s a, b i s a = bif p a then (bif p (q[i]?.getD default) then .next (IntKind.i64.wrap (IntKind.i64.wrap (s + 1) - 1)) else .next (IntKind.i64.wrap (s + 1))) else (bif p (q[i]?.getD default) then .next (IntKind.i64.wrap (s - 1)) else .next s)) :
    ∀ (l : List α) (i : Nat) (s : Int), i + l.length = q.length → -4611686018427387904 ≤ s - (l.length : Int) → s + (l.length : Int) ≤ 4611686018427387904 → loopL b i s l = .fin (s + ((l.countP p : Nat) : Int) - (((q.drop i).countP p : Nat) : Int))
  | [], i, s, he, h0, h1 => by
    rw [List.drop_eq_nil_of_le (by simp at he; omega)]
    simp [loopL]
  | a :: l, i, s, he, h0, h1 => by
    simp only [List.length_cons, Int.natCast_add, Int.cast_ofNat_Int] at h0 h1 he
    have hi : i < q.length := by omega
    unfold loopL
    rw [hb, List.countP_cons, List.drop_eq_getElem_cons hi, List.countP_cons]
    simp only [List.getElem?_eq_getElem hi, Option.getD_some]
    cases p a <;> cases p q[i] <;> simp only [cond_true, cond_false, if_true, if_false, Bool.false_eq_true]
    · rw [diff_loop hb l (i + 1) s (by omega) (by omega) (by omega)]; congr 1
    · rw [wrap_small (by omega) (by omega), diff_loop hb l (i + 1) (s - 1) (by omega) (by omega) (by omega)]; congr 1; omega
    · rw [wrap_small (by omega) (by omega), diff_loop hb l (i + 1) (s + 1) (by omega) (by omega) (by omega)]; congr 1; omega
    · rw [wrap_small (n := s + 1) (by omega) (by omega), wrap_small (by omega) (by omega), diff_loop hb l (i + 1) (s + 1 - 1) (by omega) (by omega) (by omega)]; congr 1; omega
theorem main_SameBag (a b : List Span) (ha : a.length ≤ 1048576) (hb : b.length ≤ 1048576) : impl_SameBag a b = spec_SameBag a b := by
  have hc : ∀ (l : List Span) (s : Span), l.length ≤ 1048576 → impl_SameBag_1 l s = ((l.countP (fun x => impl_SameSpan x s) : Nat) : Int) := by
    intro l s hl
    unfold impl_SameBag_1
    rw [count_loop (p := fun x => impl_SameSpan x s) (b := impl_SameBag_1_b1 s) (fun _ _ _ => rfl) l 0 0 (by omega) (by omega)]
    simp [Fin.get]
  unfold impl_SameBag spec_SameBag
  by_cases hl : a.length = b.length
  · have e1 : (((a.length : Nat) : Int) != ((b.length : Nat) : Int)) = false := by simp [hl]
    have e2 : (((a.length : Nat) : Int) == ((b.length : Nat) : Int)) = true := by simp [hl]
    rw [e1, e2, cond_false]
    congr 1
    congr 1
    funext i s x
    unfold impl_SameBag_b1 spec_SameBag_b1
    rw [hc a x ha, hc b x hb, diff_loop (p := fun y => impl_SameSpan y x) (q := b) (b := spec_SameBag_b2 b x) (fun i s y => by unfold spec_SameBag_b2 spec_SameBag_j3; simp only [main_SameSpan]; cases impl_SameSpan y x <;> rfl) a 0 0 (by omega) (by omega) (by omega)]
    simp only [Fin.get, List.drop_zero]
    congr 1
    rw [Bool.eq_iff_iff]
    simp
    omega
  · have e1 : (((a.length : Nat) : Int) != ((b.length : Nat) : Int)) = true := by simp; omega
    have e2 : (((a.length : Nat) : Int) == ((b.length : Nat) : Int)) = false := by simp; omega
    rw [e1, e2, cond_true]
    rcases any_loop (p := fun x => impl_SameBag_1 a x != impl_SameBag_1 b x) (r := fun _ => false) (b := impl_SameBag_b1 a b) (fun _ _ _ => rfl) a 0 with ⟨_, j, e⟩ | ⟨_, e⟩ <;> rw [e] <;> rfl
theorem attr_eq (x y : Attr) : (decide (x.Key = y.Key) && ((x.Num == y.Num) && ((x.N == y.N) && ((decide (x.Text = y.Text)) && true)))) = true ↔ x = y := by
  cases x; cases y
  simp [and_assoc]
theorem eqA_loop (q : List Attr) : ∀ (l : List Attr) (i : Nat), i + l.length = q.length → (l = q.drop i → loopL (slices_Equal_SAttr_Attr_b1 q) i () l = .fin ()) ∧ (l ≠ q.drop i → loopL (slices_Equal_SAttr_Attr_b1 q) i () l = .done false)
  | [], i, h => by
    rw [List.drop_eq_nil_of_le (by simp at h; omega)]
    exact ⟨fun _ => rfl, fun h => absurd rfl h⟩
  | a :: l, i, h => by
    simp only [List.length_cons] at h
    have hi : i < q.length := by omega
    obtain ⟨h1, h2⟩ := eqA_loop q l (i + 1) (by omega)
    have hq : q[i]?.getD default = q[i] := by rw [List.getElem?_eq_getElem hi]; rfl
    rw [List.drop_eq_getElem_cons hi]
    unfold loopL slices_Equal_SAttr_Attr_b1
    rw [hq]
    cases hc : (decide (a.Key = q[i].Key) && ((a.Num == q[i].Num) && ((a.N == q[i].N) && ((decide (a.Text = q[i].Text)) && true)))) with
    | true =>
      have he : a = q[i] := (attr_eq _ _).1 hc
      refine ⟨fun e => h1 (List.cons.inj e).2, fun e => h2 (fun e2 => e (by rw [← he, ← e2]))⟩
    | false =>
      have he : a ≠ q[i] := fun e => by rw [(attr_eq _ _).2 e] at hc; cases hc
      refine ⟨fun e => absurd (List.cons.inj e).1 he, fun _ => rfl⟩
theorem eqAttrS_iff (p q : List Attr) : slices_Equal_SAttr_Attr p q = true ↔ p = q := by
  unfold slices_Equal_SAttr_Attr
  by_cases hl : p.length = q.length
  · have e : (((p.length : Nat) : Int) != ((q.length : Nat) : Int)) = false := by simp [hl]
    rw [e, cond_false]
    obtain ⟨h1, h2⟩ := eqA_loop q p 0 (by omega)
    rw [List.drop_zero] at h1 h2
    by_cases hp : p = q
    · rw [h1 hp]; exact ⟨fun _ => hp, fun _ => rfl⟩
    · rw [h2 hp]; exact ⟨fun h => (by cases h), fun h => absurd h hp⟩
  · have e : (((p.length : Nat) : Int) != ((q.length : Nat) : Int)) = true := by simp; omega
    rw [e, cond_true]
    exact ⟨fun h => (by cases h), fun h => absurd (congrArg List.length h) hl⟩
theorem bif_and (a b : Bool) : (bif a then b else false) = true ↔ a = true ∧ b = true := by cases a <;> simp
theorem sameSpan_iff (x y : Span) : impl_SameSpan x y = true ↔ x = y := by
  unfold impl_SameSpan
  rw [bif_and, bif_and, bif_and, bif_and, bif_and, eqAttrS_iff]
  cases x; cases y
  simp
theorem bag_perm {α : Type} (p : α → α → Bool) (hp : ∀ x s, p x s = true ↔ x = s) : ∀ (a b : List α), a.length = b.length → (∀ s ∈ a, a.countP (fun x => p x s) = b.countP (fun x => p x s)) → a.Perm b
  | [], b, hl, _ => by
    have : b = [] := List.eq_nil_of_length_eq_zero (by simpa using hl.symm)
    rw [this]
  | x :: a, b, hl, h => by
    have hx : x ∈ b := by
      have h1 := h x (by simp)
      rw [List.countP_cons, (hp x x).2 rfl, if_pos rfl] at h1
      have h2 : 0 < b.countP (fun y => p y x) := by omega
      obtain ⟨y, hy, hyp⟩ := List.countP_pos_iff.1 h2
      have := (hp y x).1 hyp
      rw [← this]; exact hy
    obtain ⟨b1, b2, rfl⟩ := List.append_of_mem hx
    have ih : a.Perm (b1 ++ b2) := bag_perm p hp a (b1 ++ b2) (by simp only [List.length_cons, List.length_append] at hl ⊢; omega) (fun s hs => by
      have h1 := h s (List.mem_cons_of_mem _ hs)
      rw [List.countP_cons, List.countP_append, List.countP_cons] at h1
      rw [List.countP_append]; omega)
    exact (List.Perm.cons x ih).trans List.perm_middle.symm
theorem sb_iff (a b : List Span) (ha : a.length ≤ 1048576) (hb : b.length ≤ 1048576) : impl_SameBag a b = true ↔ a.Perm b := by
  have hc : ∀ (l : List Span) (s : Span), l.length ≤ 1048576 → impl_SameBag_1 l s = ((l.countP (fun x => impl_SameSpan x s) : Nat) : Int) := by
    intro l s hl
    unfold impl_SameBag_1
    rw [count_loop (p := fun x => impl_SameSpan x s) (b := impl_SameBag_1_b1 s) (fun _ _ _ => rfl) l 0 0 (by omega) (by omega)]
    simp [Fin.get]
  unfold impl_SameBag
  rcases any_loop (p := fun x => impl_SameBag_1 a x != impl_SameBag_1 b x) (r := fun _ => false) (b := impl_SameBag_b1 a b) (fun _ _ _ => rfl) a 0 with ⟨h, j, e⟩ | ⟨h, e⟩
  · rw [e]
    refine ⟨fun q => (by cases q), fun hp => ?_⟩
    obtain ⟨x, hx, hne⟩ := List.any_eq_true.1 h
    rw [hc a x ha, hc b x hb, hp.countP_eq] at hne
    simp at hne
  · rw [e]
    show (((a.length : Nat) : Int) == ((b.length : Nat) : Int)) = true ↔ _
    rw [beq_iff_eq]
    refine ⟨fun q => ?_, fun hp => by rw [hp.length_eq]⟩
    refine bag_perm impl_SameSpan sameSpan_iff a b (by omega) (fun s hs => ?_)
    have h1 : ¬ (impl_SameBag_1 a s != impl_SameBag_1 b s) = true := List.any_eq_false.1 h s hs
    rw [hc a s ha, hc b s hb] at h1
    simp at h1
    omega
theorem turn_loop (p0 : List Int) (h8 : (spec_DrawSameBag p0).1.length ≤ 8) : ∀ (k n : Nat) (s : List Span), k ≤ (spec_DrawSameBag p0).1.length → k ≤ n → loopW (laws_FnBags_b1 p0) n (s, (k : Int) - 1) = .fin (s ++ ((spec_DrawSameBag p0).1.take k).reverse, -1)
  | 0, n, s, _, _ => by
    have hb : laws_FnBags_b1 p0 (s, ((0 : Nat) : Int) - 1) = .stop (s, ((0 : Nat) : Int) - 1) := by
      unfold laws_FnBags_b1
      rw [decide_eq_false (by show ¬ ((0 : Nat) : Int) - 1 ≥ 0; omega)]; rfl
    rw [loopW_stop hb n]
    simp
  | k + 1, 0, s, _, h => by omega
  | k + 1, n + 1, s, h1, h2 => by
    have hb : laws_FnBags_b1 p0 (s, ((k + 1 : Nat) : Int) - 1) = .next (s ++ [(spec_DrawSameBag p0).1[k]], (k : Int) - 1) := by
      unfold laws_FnBags_b1
      rw [decide_eq_true (by show ((k + 1 : Nat) : Int) - 1 ≥ 0; omega), cond_true]
      have e1 : ((k + 1 : Nat) : Int) - 1 = (k : Int) := by omega
      rw [e1]
      have e2 : IntKind.i64.wrap ((k : Int) - 1) = (k : Int) - 1 := by rw [wrap_small (n := (k : Int) - 1)] <;> omega
      show Step.next (s ++ [(spec_DrawSameBag p0).1[(k : Int).toNat]?.getD default], IntKind.i64.wrap ((k : Int) - 1)) = _
      rw [e2, show ((k : Int)).toNat = k from rfl, List.getElem?_eq_getElem (by omega)]
      rfl
    unfold loopW
    rw [hb]
    simp only
    rw [turn_loop p0 h8 k n _ (by omega) (by omega), List.take_succ_eq_append_getElem (by omega), List.reverse_append]
    simp
theorem law_Bags (p0 : List Int) (hw0 : bdS (fun _ _ => True) 9223372036854775807 p0) : laws_FnBags p0 = true := by
  unfold laws_FnBags
  cases hbig : laws_big p0 with
  | true => rfl
  | false =>
    rw [cond_false]
    obtain ⟨h8, hb8⟩ := drawBag_ok (bigBd hbig)
    have el : IntKind.i64.wrap ((((spec_DrawSameBag p0).1.length : Nat) : Int) - 1) = (((spec_DrawSameBag p0).1.length : Nat) : Int) - 1 := by
      rw [wrap_small (n := (((spec_DrawSameBag p0).1.length : Nat) : Int) - 1)] <;> omega
    rw [el]
    have ef : loopW (laws_FnBags_b1 p0) ((fun s : List Span × Int => (s.2 + 1).toNat) (([] : List Span), (((spec_DrawSameBag p0).1.length : Nat) : Int) - 1)) (([] : List Span), (((spec_DrawSameBag p0).1.length : Nat) : Int) - 1) = .fin ([] ++ ((spec_DrawSameBag p0).1.take (spec_DrawSameBag p0).1.length).reverse, -1) :=
      turn_loop p0 h8 _ _ [] (Nat.le_refl _) (by show _ ≤ ((((spec_DrawSameBag p0).1.length : Nat) : Int) - 1 + 1).toNat; omega)
    rw [ef, List.take_length, List.nil_append]
    generalize (spec_DrawSameBag p0).1 = a at h8
    generalize (spec_DrawSameBag p0).2 = b at hb8
    have ha : a.length ≤ 1048576 := by omega
    have hb : b.length ≤ 1048576 := by omega
    have hr : a.reverse.length ≤ 1048576 := by simpa using ha
    have p1 := main_SameBag a b ha hb
    have p2 : impl_SameBag a b = impl_SameBag b a := Bool.eq_iff_iff.2 (by rw [sb_iff a b ha hb, sb_iff b a hb ha]; exact List.perm_comm)
    have p3 : impl_SameBag a b = impl_SameBag a.reverse b := Bool.eq_iff_iff.2 (by
      rw [sb_iff a b ha hb, sb_iff _ b hr hb]
      exact ⟨fun h => (List.reverse_perm a).trans h, fun h => (List.reverse_perm a).symm.trans h⟩)
    have p4 : impl_SameBag a a.reverse = true := (sb_iff a _ ha hr).2 (List.reverse_perm a).symm
    have p5 : ∀ x : Span, impl_SameBag a (a.reverse ++ [x]) = false := fun x => by
      cases h : impl_SameBag a (a.reverse ++ [x]) with
      | false => rfl
      | true =>
        have := ((sb_iff a _ ha (by simp only [List.length_append, List.length_reverse, List.length_cons, List.length_nil]; omega)).1 h).length_eq
        simp at this
    simp only [Fin.get_fin]
    rw [p5, p4, ← p1, ← p2, ← p3]
    simp
theorem rows_sl {α : Type} (f : α → List T) (W : α → Prop) : ∀ rows : List (List T), (∀ r ∈ rows, ∃ x, r = f x ∧ W x) → ∃ l : List α, rows = l.map f ∧ ∀ x ∈ l, W x
  | [], _ => ⟨[], rfl, by simp⟩
  | r :: rows, h => by
    obtain ⟨x, hx, hw⟩ := h r (by simp)
    obtain ⟨l, hl, hw'⟩ := rows_sl f W rows (fun r hr => h r (by simp [hr]))
    exact ⟨x :: l, by simp [hx, hl], fun y hy => by rcases List.mem_cons.1 hy with rfl | hy; exact hw; exact hw' y hy⟩
theorem shape_sl {α : Type} (f : α → List T) {P : Nat → α → Prop} (W : α → Prop) (hW : W = P 9223372036854775807) {n t e k : Nat} (ht : prog.underlying t = some (.slice e)) (hk : prog.cellsOf e = k) {y : List T} (h : Shape prog (n + 1) t y) (hr : ∀ r, Shape prog n e r → ∃ x, r = f x ∧ W x) :
    ∃ l : List α, y = [.s false k (l.map f)] ∧ bdS P 9223372036854775807 l := by
  subst hW
  unfold Shape at h
  rw [ht] at h
  obtain ⟨rows, h1, h2, h3⟩ := h
  rw [hk] at h1
  obtain ⟨l, rfl, hw⟩ := rows_sl f _ rows (fun r hr' => hr r (h3 r hr').2)
  exact ⟨l, h1, by simpa [maxLen] using h2, hw⟩
theorem shape5 (n : Nat) {l : List T} (h : Shape prog n 5 l) : ∃ x : Int, l = [.v (.int .u8 x)] ∧ True := by
  cases n with
  | zero => exact (h : False).elim
  | succ n =>
    simp only [Shape, underlying5] at h
    obtain ⟨x, hx, _⟩ := h
    exact ⟨x, hx, trivial⟩
theorem shape86 (n : Nat) {l : List T} (h : Shape prog n 86 l) : ∃ x : (List Int), l = [.s false 1 (List.map cU8 x)] ∧ bdS (fun _ _ => True) 9223372036854775807 x := by
  cases n with
  | zero => exact (h : False).elim
  | succ n =>
    exact shape_sl cU8 (P := (fun _ _ => True)) _ rfl underlying86 (by kernel_rfl) h (fun r hr => shape5 n hr)
theorem arg86 {n : Nat} {y : T} (h : Shape prog n 86 [y]) : ∃ x : (List Int), y = .s false 1 (List.map cU8 x) ∧ bdS (fun _ _ => True) 9223372036854775807 x := by
  obtain ⟨x, hx, hw⟩ := shape86 n h
  exact ⟨x, by simpa using hx, hw⟩
theorem law_c (p0 : (List Int)) (h0 : bdS (fun _ _ => True) 9223372036854775807 p0) : FnOk prog 6 [.one (.s false 1 (List.map cU8 p0))] ⟨.one (.v (.bool true)), [], [], false⟩ :=
  FnOk.fits ⟨_, func6, by kernel_rfl, by kernel_rfl⟩ (fun hf => by
    have h := c_laws_FnBags p0 h0
    rw [law_Bags p0 h0] at h
    exact h)

end Go.Proofs.Try.Ev
