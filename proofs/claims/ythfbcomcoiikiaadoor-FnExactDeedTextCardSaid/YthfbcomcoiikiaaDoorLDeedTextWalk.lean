import Derived.Test.YthfbcomcoiikiaaDoorLTabsE
import Derived.Test.YthfbcomcoiikiaaDoorLItoaE
import Derived.Test.YthfbcomcoiikiaaDoorEvZ
set_option linter.unusedSectionVars false
namespace Go.Proofs.Tryd.Ev
open Go Go.Ev Go.Proofs
set_option maxHeartbeats 4000000
set_option maxRecDepth 100000
set_option linter.unusedSimpArgs false
set_option linter.unusedVariables false
structure Attr where
  Key : ByteArray
  Num : Bool
  N : Int
  Text : ByteArray
deriving DecidableEq, Inhabited
def Attr.cells (x : Attr) : List T := [.v (.string x.Key), .v (.bool x.Num), .v (.int .i64 x.N), .v (.string x.Text)]
theorem own_Attr (x : Attr) : OwnL (Attr.cells x) := ⟨.v _, .v _, .v _, .v _, trivial⟩
theorem frz_Attr (x : Attr) : frzL (Attr.cells x) = Attr.cells x := rfl
theorem fz_Attr (x : Attr) : (Attr.cells x).map T.fz = Attr.cells x := rfl
theorem fl_Attr (x : Attr) : (Attr.cells x).map T.flat = Attr.cells x := rfl
def Attr.bd (M : Nat) (x : Attr) : Prop := x.Key.size ≤ M ∧ x.Text.size ≤ M
def Attr.rg (x : Attr) : Prop := (x.Key).size ≤ 9223372036854775807 ∧ True ∧ I64 x.N ∧ (x.Text).size ≤ 9223372036854775807 ∧ True
theorem rg_Attr {x : Attr} (h : fitL (Attr.cells x)) : Attr.rg x := ⟨(Nat.le_of_ble_eq_true h.1), trivial, (range_of_fit h.2.2.1), (Nat.le_of_ble_eq_true h.2.2.2.1), trivial⟩
theorem Attr.rg.Key {x : Attr} (h : Attr.rg x) : (x.Key).size ≤ 9223372036854775807 := h.1
theorem Attr.rg.N {x : Attr} (h : Attr.rg x) : I64 x.N := h.2.2.1
theorem Attr.rg.Text {x : Attr} (h : Attr.rg x) : (x.Text).size ≤ 9223372036854775807 := h.2.2.2.1
structure Span where
  Trace : Int
  Id : Int
  Start : Int
  End : Int
  Err : Bool
  Attrs : (List Attr)
deriving DecidableEq, Inhabited
def Span.cells (o : Bool) (x : Span) : List T := [.v (.int .i64 x.Trace), .v (.int .i64 x.Id), .v (.int .i64 x.Start), .v (.int .i64 x.End), .v (.bool x.Err), .s o 4 (List.map Attr.cells x.Attrs)]
theorem own_Span (x : Span) : OwnL (Span.cells true x) := ⟨.v _, .v _, .v _, .v _, .v _, ownSl own_Attr _, trivial⟩
theorem frz_Span {o : Bool} (x : Span) : frzL (Span.cells o x) = Span.cells false x := by
  show [T.v (.int .i64 x.Trace), T.v (.int .i64 x.Id), T.v (.int .i64 x.Start), T.v (.int .i64 x.End), T.v (.bool x.Err), T.s false 4 (frzLL (List.map Attr.cells x.Attrs))] = _
  rw [frzMap (f := Attr.cells) (g := Attr.cells) frz_Attr x.Attrs]
  rfl
theorem fz_Span {o : Bool} (x : Span) : (Span.cells o x).map T.fz = Span.cells false x := by
  show [T.v (.int .i64 x.Trace), T.v (.int .i64 x.Id), T.v (.int .i64 x.Start), T.v (.int .i64 x.End), T.v (.bool x.Err), T.s false 4 (frzLL (List.map Attr.cells x.Attrs))] = _
  rw [frzMap (f := Attr.cells) (g := Attr.cells) frz_Attr x.Attrs]
  rfl
def Span.bd (M : Nat) (x : Span) : Prop := bdS Attr.bd M x.Attrs
def Span.rg (x : Span) : Prop := I64 x.Trace ∧ I64 x.Id ∧ I64 x.Start ∧ I64 x.End ∧ True ∧ ((x.Attrs).length ≤ 9223372036854775807 ∧ ∀ y ∈ x.Attrs, Attr.rg y) ∧ True
theorem rg_Span {o : Bool} {x : Span} (h : fitL (Span.cells o x)) : Span.rg x := ⟨(range_of_fit h.1), (range_of_fit h.2.1), (range_of_fit h.2.2.1), (range_of_fit h.2.2.2.1), trivial, ⟨by simpa using h.2.2.2.2.2.1.1, fun y hy => (rg_Attr (fitLL_map h.2.2.2.2.2.1.2 y hy))⟩, trivial⟩
theorem Span.rg.Trace {x : Span} (h : Span.rg x) : I64 x.Trace := h.1
theorem Span.rg.Id {x : Span} (h : Span.rg x) : I64 x.Id := h.2.1
theorem Span.rg.Start {x : Span} (h : Span.rg x) : I64 x.Start := h.2.2.1
theorem Span.rg.End {x : Span} (h : Span.rg x) : I64 x.End := h.2.2.2.1
theorem Span.rg.Attrs {x : Span} (h : Span.rg x) : ((x.Attrs).length ≤ 9223372036854775807 ∧ ∀ y ∈ x.Attrs, Attr.rg y) := h.2.2.2.2.2.1
structure Deed where
  Op : Int
  Task : Int
  S : Span
  Trace : Int
  Stamp : Int
  Code : Int
  Keep : Bool
  Void : Bool
  Took : Int
  N : Int
  Forgot : Int
  Now : Int
  Inv : Int
  Lin : Int
  Res : Int
deriving DecidableEq, Inhabited
def Deed.cells (o : Bool) (x : Deed) : List T := [.v (.int .i64 x.Op), .v (.int .i64 x.Task), .v (.int .i64 x.S.Trace), .v (.int .i64 x.S.Id), .v (.int .i64 x.S.Start), .v (.int .i64 x.S.End), .v (.bool x.S.Err), .s o 4 (List.map Attr.cells x.S.Attrs), .v (.int .i64 x.Trace), .v (.int .i64 x.Stamp), .v (.int .i64 x.Code), .v (.bool x.Keep), .v (.bool x.Void), .v (.int .i64 x.Took), .v (.int .i64 x.N), .v (.int .i64 x.Forgot), .v (.int .i64 x.Now), .v (.int .i64 x.Inv), .v (.int .i64 x.Lin), .v (.int .i64 x.Res)]
theorem own_Deed (x : Deed) : OwnL (Deed.cells true x) := ⟨.v _, .v _, .v _, .v _, .v _, .v _, .v _, ownSl own_Attr _, .v _, .v _, .v _, .v _, .v _, .v _, .v _, .v _, .v _, .v _, .v _, .v _, trivial⟩
theorem frz_Deed {o : Bool} (x : Deed) : frzL (Deed.cells o x) = Deed.cells false x := by
  show [T.v (.int .i64 x.Op), T.v (.int .i64 x.Task), T.v (.int .i64 x.S.Trace), T.v (.int .i64 x.S.Id), T.v (.int .i64 x.S.Start), T.v (.int .i64 x.S.End), T.v (.bool x.S.Err), T.s false 4 (frzLL (List.map Attr.cells x.S.Attrs)), T.v (.int .i64 x.Trace), T.v (.int .i64 x.Stamp), T.v (.int .i64 x.Code), T.v (.bool x.Keep), T.v (.bool x.Void), T.v (.int .i64 x.Took), T.v (.int .i64 x.N), T.v (.int .i64 x.Forgot), T.v (.int .i64 x.Now), T.v (.int .i64 x.Inv), T.v (.int .i64 x.Lin), T.v (.int .i64 x.Res)] = _
  rw [frzMap (f := Attr.cells) (g := Attr.cells) frz_Attr x.S.Attrs]
  rfl
theorem fz_Deed {o : Bool} (x : Deed) : (Deed.cells o x).map T.fz = Deed.cells false x := by
  show [T.v (.int .i64 x.Op), T.v (.int .i64 x.Task), T.v (.int .i64 x.S.Trace), T.v (.int .i64 x.S.Id), T.v (.int .i64 x.S.Start), T.v (.int .i64 x.S.End), T.v (.bool x.S.Err), T.s false 4 (frzLL (List.map Attr.cells x.S.Attrs)), T.v (.int .i64 x.Trace), T.v (.int .i64 x.Stamp), T.v (.int .i64 x.Code), T.v (.bool x.Keep), T.v (.bool x.Void), T.v (.int .i64 x.Took), T.v (.int .i64 x.N), T.v (.int .i64 x.Forgot), T.v (.int .i64 x.Now), T.v (.int .i64 x.Inv), T.v (.int .i64 x.Lin), T.v (.int .i64 x.Res)] = _
  rw [frzMap (f := Attr.cells) (g := Attr.cells) frz_Attr x.S.Attrs]
  rfl
def Deed.bd (M : Nat) (x : Deed) : Prop := Span.bd M x.S
def Deed.rg (x : Deed) : Prop := I64 x.Op ∧ I64 x.Task ∧ I64 x.S.Trace ∧ I64 x.S.Id ∧ I64 x.S.Start ∧ I64 x.S.End ∧ True ∧ ((x.S.Attrs).length ≤ 9223372036854775807 ∧ ∀ y ∈ x.S.Attrs, Attr.rg y) ∧ I64 x.Trace ∧ I64 x.Stamp ∧ I64 x.Code ∧ True ∧ True ∧ I64 x.Took ∧ I64 x.N ∧ I64 x.Forgot ∧ I64 x.Now ∧ I64 x.Inv ∧ I64 x.Lin ∧ I64 x.Res ∧ True
theorem rg_Deed {o : Bool} {x : Deed} (h : fitL (Deed.cells o x)) : Deed.rg x := ⟨(range_of_fit h.1), (range_of_fit h.2.1), (range_of_fit h.2.2.1), (range_of_fit h.2.2.2.1), (range_of_fit h.2.2.2.2.1), (range_of_fit h.2.2.2.2.2.1), trivial, ⟨by simpa using h.2.2.2.2.2.2.2.1.1, fun y hy => (rg_Attr (fitLL_map h.2.2.2.2.2.2.2.1.2 y hy))⟩, (range_of_fit h.2.2.2.2.2.2.2.2.1), (range_of_fit h.2.2.2.2.2.2.2.2.2.1), (range_of_fit h.2.2.2.2.2.2.2.2.2.2.1), trivial, trivial, (range_of_fit h.2.2.2.2.2.2.2.2.2.2.2.2.2.1), (range_of_fit h.2.2.2.2.2.2.2.2.2.2.2.2.2.2.1), (range_of_fit h.2.2.2.2.2.2.2.2.2.2.2.2.2.2.2.1), (range_of_fit h.2.2.2.2.2.2.2.2.2.2.2.2.2.2.2.2.1), (range_of_fit h.2.2.2.2.2.2.2.2.2.2.2.2.2.2.2.2.2.1), (range_of_fit h.2.2.2.2.2.2.2.2.2.2.2.2.2.2.2.2.2.2.1), (range_of_fit h.2.2.2.2.2.2.2.2.2.2.2.2.2.2.2.2.2.2.2.1), trivial⟩
theorem Deed.rg.Op {x : Deed} (h : Deed.rg x) : I64 x.Op := h.1
theorem Deed.rg.Task {x : Deed} (h : Deed.rg x) : I64 x.Task := h.2.1
theorem Deed.rg.S {x : Deed} (h : Deed.rg x) : Span.rg x.S := ⟨h.2.2.1, h.2.2.2.1, h.2.2.2.2.1, h.2.2.2.2.2.1, h.2.2.2.2.2.2.1, h.2.2.2.2.2.2.2.1, trivial⟩
theorem Deed.rg.Trace {x : Deed} (h : Deed.rg x) : I64 x.Trace := h.2.2.2.2.2.2.2.2.1
theorem Deed.rg.Stamp {x : Deed} (h : Deed.rg x) : I64 x.Stamp := h.2.2.2.2.2.2.2.2.2.1
theorem Deed.rg.Code {x : Deed} (h : Deed.rg x) : I64 x.Code := h.2.2.2.2.2.2.2.2.2.2.1
theorem Deed.rg.Took {x : Deed} (h : Deed.rg x) : I64 x.Took := h.2.2.2.2.2.2.2.2.2.2.2.2.2.1
theorem Deed.rg.N {x : Deed} (h : Deed.rg x) : I64 x.N := h.2.2.2.2.2.2.2.2.2.2.2.2.2.2.1
theorem Deed.rg.Forgot {x : Deed} (h : Deed.rg x) : I64 x.Forgot := h.2.2.2.2.2.2.2.2.2.2.2.2.2.2.2.1
theorem Deed.rg.Now {x : Deed} (h : Deed.rg x) : I64 x.Now := h.2.2.2.2.2.2.2.2.2.2.2.2.2.2.2.2.1
theorem Deed.rg.Inv {x : Deed} (h : Deed.rg x) : I64 x.Inv := h.2.2.2.2.2.2.2.2.2.2.2.2.2.2.2.2.2.1
theorem Deed.rg.Lin {x : Deed} (h : Deed.rg x) : I64 x.Lin := h.2.2.2.2.2.2.2.2.2.2.2.2.2.2.2.2.2.2.1
theorem Deed.rg.Res {x : Deed} (h : Deed.rg x) : I64 x.Res := h.2.2.2.2.2.2.2.2.2.2.2.2.2.2.2.2.2.2.2.1
def ntInv (s : ByteArray × Int) : Prop := (s.1.size = 0 ∧ s.2.natAbs ≤ 9223372036854775808) ∨ s.1.size + s.2.natAbs ≤ 4611686018427387904
def ntM (s : ByteArray × Int) : Nat := s.2.natAbs
theorem size_str1 (c : Int) : (strOfNums [c]).size = 1 := rfl
theorem nt_abs {x : Int} (h : x.natAbs ≤ 9223372036854775808) : (IntKind.i64.wrap (x.tdiv 10)).natAbs = x.natAbs / 10 := by
  have e : (x.tdiv 10).natAbs = x.natAbs / 10 := by rw [Int.natAbs_tdiv]; rfl
  generalize x.tdiv 10 = q at e ⊢
  have hq : q.natAbs ≤ 922337203685477580 := by omega
  have hq1 : -9223372036854775808 ≤ q := by clear e; omega
  have hq2 : q ≤ 9223372036854775807 := by clear e; omega
  rw [Go.Ev.wrap_small hq1 hq2, e]
theorem nt_step {s : ByteArray} {x c : Int} (h : ntInv (s, x)) (hx : x ≠ 0) : ntInv (strOfNums [c] ++ s, IntKind.i64.wrap (x.tdiv 10)) ∧ ntM (strOfNums [c] ++ s, IntKind.i64.wrap (x.tdiv 10)) < ntM (s, x) := by
  unfold ntInv ntM at *
  simp only at h ⊢
  rw [nt_abs (by omega), ByteArray.size_append, size_str1]
  omega
theorem nt_cat {s : ByteArray} {x c : Int} (h : ntInv (s, x)) (hx : (x != 0) = true) : (((strOfNums [c]).size + s.size : Nat) : Int) ≤ 9223372036854775807 := by
  unfold ntInv at h
  simp only [bne_iff_ne] at h hx
  rw [size_str1]
  omega
theorem nt_cat2 {s : ByteArray} {x : Int} {b : UInt8} (h : ntInv (s, x)) : (((ByteArray.mk #[b]).size + s.size : Nat) : Int) ≤ 9223372036854775807 := by
  unfold ntInv at h
  simp only at h
  have : (ByteArray.mk #[b]).size = 1 := rfl
  omega
theorem bsz (a : Array UInt8) : (ByteArray.mk a).size = a.size := rfl
theorem loopC_all {σ : Type} {f : Nat → σ → Step σ Bool} (hd : ∀ i s r, f i s = .done r → r = false) : ∀ (n i : Nat) (s : σ), (∃ s', loopC f i s n = .fin s') ∨ loopC f i s n = .done false
  | 0, i, s => .inl ⟨s, rfl⟩
  | n + 1, i, s => by
    unfold loopC
    cases h : f i s with
    | next s' => exact loopC_all hd n (i + 1) s'
    | stop s' => exact .inl ⟨s', rfl⟩
    | done r => rw [hd i s r h]; exact .inr rfl
theorem loopL_all {α σ : Type} {f : Nat → σ → α → Step σ Bool} (hd : ∀ i s a r, f i s a = .done r → r = false) : ∀ (l : List α) (i : Nat) (s : σ), (∃ s', loopL f i s l = .fin s') ∨ loopL f i s l = .done false
  | [], i, s => .inl ⟨s, rfl⟩
  | a :: l, i, s => by
    unfold loopL
    cases h : f i s a with
    | next s' => exact loopL_all hd l (i + 1) s'
    | stop s' => exact .inl ⟨s', rfl⟩
    | done r => rw [hd i s a r h]; exact .inr rfl
theorem loopL_congr {α σ ρ : Type} {f g : Nat → σ → α → Step σ ρ} : ∀ (l : List α) (i : Nat) (s : σ), (∀ i s, ∀ a ∈ l, f i s a = g i s a) → loopL f i s l = loopL g i s l
  | [], i, s, _ => rfl
  | a :: l, i, s, h => by
    unfold loopL
    rw [h i s a (by simp)]
    cases g i s a with
    | next s' => exact loopL_congr l (i + 1) s' (fun i s x hx => h i s x (by simp [hx]))
    | _ => rfl
def impl_within (p0 : Int) (p1 : Int) (p2 : Int) : Bool :=
  (bif (decide (p0 ≥ p1)) then (decide (p0 ≤ p2)) else false)
theorem c_impl_within (p0 : Int) (p1 : Int) (p2 : Int) : FnOk prog 33 [.one (.v (.int .i64 p0)), .one (.v (.int .i64 p1)), .one (.v (.int .i64 p2))] ⟨.one (.v (.bool (impl_within p0 p1 p2))), [], [], false⟩ := by
  refine FnOk.intro (E := env) envOk wide func33 rfl (by kernel_rfl) rfl rfl ?_
  refine And.intro (fun (h1 : (decide (p0 ≥ p1)) = true) => ?_) (fun (h1 : (decide (p0 ≥ p1)) = false) => ?_)
  · refine And.intro (fun _ => .v _) ?_
    have hg : impl_within p0 p1 p2 = (decide (p0 ≤ p2)) := by
      first | rfl | (simp only [impl_within, h1, cond_true, cond_false, Step.fin_stop, Step.fin_done, Fin.get_fin, Fin.get_done, Step.fin_next, Bool.not_true, Bool.not_false, Option.getD_some]) | (simp [impl_within, h1, cond_true, cond_false, Step.fin_stop, Step.fin_done, Fin.get_fin, Fin.get_done, Step.fin_next, Bool.not_true, Bool.not_false, Option.getD_some])
    exact congrArg (fun g : Bool => AV.one (.v (.bool g))) hg.symm
  · refine And.intro (fun _ => .v _) ?_
    have hg : impl_within p0 p1 p2 = false := by
      first | rfl | (simp only [impl_within, h1, cond_true, cond_false, Step.fin_stop, Step.fin_done, Fin.get_fin, Fin.get_done, Step.fin_next, Bool.not_true, Bool.not_false, Option.getD_some]) | (simp [impl_within, h1, cond_true, cond_false, Step.fin_stop, Step.fin_done, Fin.get_fin, Fin.get_done, Step.fin_next, Bool.not_true, Bool.not_false, Option.getD_some])
    exact congrArg (fun g : Bool => AV.one (.v (.bool g))) hg.symm
def impl_NameOk_b1 (p0 : ByteArray) (i1 : Nat) (s1 : Unit) : Step (Unit) Bool :=
  (bif (decide ((((p0).data.getD i1 0).toNat : Int) < 97)) then (.done false) else (bif (decide ((((p0).data.getD i1 0).toNat : Int) > 122)) then (.done false) else (.next ())))
def impl_NameOk (p0 : ByteArray) : Bool :=
  (Fin.get (fun s1 => (impl_within (((p0).size : Nat) : Int) 1 8)) (loopC (impl_NameOk_b1 p0) 0 () (p0).size))
theorem c_impl_NameOk (p0 : ByteArray) : FnOk prog 49 [.one (.v (.string p0))] ⟨.one (.v (.bool (impl_NameOk p0))), [], [], false⟩ := by
  refine FnOk.intro (E := env) envOk wide func49 rfl (by kernel_rfl) rfl rfl ?_
  refine loop_rule (α := CntSt (impl_NameOk_b1 p0) () (p0).size) [0] (fun x1 => [(3, .one (.v (.int .i64 ((x1.i : Nat) : Int))))]) (fun x1 => []) (fun x1 => (p0).size - x1.i) .init [] ?_ (fun x1 => ?_)
  · exact ⟨rfl, ⟨rfl, rfl, trivial⟩, trivial, trivial⟩
  · refine fun hN => ?_
    have hN1 : (_ : Nat) ≤ 9223372036854775807 := hN rfl
    refine And.intro (fun (h2 : (decide (((x1.i : Nat) : Int) < (((p0).size : Nat) : Int))) = true) => ?_) (fun (h2 : (decide (((x1.i : Nat) : Int) < (((p0).size : Nat) : Int))) = false) => ?_)
    · have hi1 : x1.i < (p0).size := by (first | omega | (simp; done) | (simp; omega) | (simp at *; omega) | (simp at *; done) | (simp_all; done) | (simp_all; omega))
      have hw1 : IntKind.i64.wrap (((x1.i : Nat) : Int) + 1) = ((x1.i + 1 : Nat) : Int) := by (rw [Go.Ev.wrap_small] <;> omega)
      refine And.intro (fun _ => by (first | omega | (simp; done) | (simp; omega) | (simp at *; omega) | (simp at *; done) | (simp_all; done) | (simp_all; omega))) ?_
      refine And.intro (fun (h3 : (decide ((((p0).data.getD x1.i 0).toNat : Int) < 97)) = false) => ?_) (fun (h3 : (decide ((((p0).data.getD x1.i 0).toNat : Int) < 97)) = true) => ?_)
      · refine And.intro (fun _ => by (first | omega | (simp; done) | (simp; omega) | (simp at *; omega) | (simp at *; done) | (simp_all; done) | (simp_all; omega))) ?_
        refine And.intro (fun (h4 : (decide ((((p0).data.getD x1.i 0).toNat : Int) > 122)) = true) => ?_) (fun (h4 : (decide ((((p0).data.getD x1.i 0).toNat : Int) > 122)) = false) => ?_)
        · have hb1 := x1.out hi1 (by first | rfl | simp only [impl_NameOk_b1, h2, h3, h4, cond_true, cond_false, Bool.not_true, Bool.not_false, Option.getD_some, Step.isNext_stop, Step.isNext_done, Step.fin_stop, Step.fin_done, Fin.get_fin, Fin.get_done])
          refine And.intro (fun _ => .v _) ?_
          have hg : impl_NameOk p0 = false := by
            first | rfl | (simp only [impl_NameOk, impl_NameOk_b1, h2, h3, h4, hb1, cond_true, cond_false, Step.fin_stop, Step.fin_done, Fin.get_fin, Fin.get_done, Step.fin_next, Bool.not_true, Bool.not_false, Option.getD_some]) | (simp [impl_NameOk, impl_NameOk_b1, h2, h3, h4, hb1, cond_true, cond_false, Step.fin_stop, Step.fin_done, Fin.get_fin, Fin.get_done, Step.fin_next, Bool.not_true, Bool.not_false, Option.getD_some])
          exact congrArg (fun g : Bool => AV.one (.v (.bool g))) hg.symm
        · refine x1.go hi1 (v := ()) (by first | rfl | simp only [impl_NameOk_b1, h2, h3, h4, cond_true, cond_false, Bool.not_true, Bool.not_false, Option.getD_some, Step.fin_stop, Step.fin_done, Fin.get_fin, Fin.get_done]) [] (by show _ - (x1.i + 1) < _ - x1.i; omega) ?_
          exact ⟨rfl, ⟨(eqInt hw1), rfl, trivial⟩, trivial, trivial⟩
      · have hb1 := x1.out hi1 (by first | rfl | simp only [impl_NameOk_b1, h2, h3, cond_true, cond_false, Bool.not_true, Bool.not_false, Option.getD_some, Step.isNext_stop, Step.isNext_done, Step.fin_stop, Step.fin_done, Fin.get_fin, Fin.get_done])
        refine And.intro (fun _ => .v _) ?_
        have hg : impl_NameOk p0 = false := by
          first | rfl | (simp only [impl_NameOk, impl_NameOk_b1, h2, h3, hb1, cond_true, cond_false, Step.fin_stop, Step.fin_done, Fin.get_fin, Fin.get_done, Step.fin_next, Bool.not_true, Bool.not_false, Option.getD_some]) | (simp [impl_NameOk, impl_NameOk_b1, h2, h3, hb1, cond_true, cond_false, Step.fin_stop, Step.fin_done, Fin.get_fin, Fin.get_done, Step.fin_next, Bool.not_true, Bool.not_false, Option.getD_some])
        exact congrArg (fun g : Bool => AV.one (.v (.bool g))) hg.symm
    · have hf1 := x1.fin (show ¬ x1.i < (p0).size by (first | omega | (simp; done) | (simp; omega) | (simp at *; omega) | (simp at *; done) | (simp_all; done) | (simp_all; omega)))
      refine fun hN => ?_
      have hN5 : (_ : Nat) ≤ 9223372036854775807 := hN rfl
      refine ⟨_, _, c_impl_within (((p0).size : Nat) : Int) 1 8, (FzAs.same _), ?_⟩
      refine litE (m := 1) rfl ?_
      refine And.intro (fun _ => .v _) ?_
      have hg : impl_NameOk p0 = (impl_within (((p0).size : Nat) : Int) 1 8) := by
        first | rfl | (simp only [impl_NameOk, impl_NameOk_b1, h2, hf1, cond_true, cond_false, Step.fin_stop, Step.fin_done, Fin.get_fin, Fin.get_done, Step.fin_next, Bool.not_true, Bool.not_false, Option.getD_some]) | (simp [impl_NameOk, impl_NameOk_b1, h2, hf1, cond_true, cond_false, Step.fin_stop, Step.fin_done, Fin.get_fin, Fin.get_done, Step.fin_next, Bool.not_true, Bool.not_false, Option.getD_some])
      exact congrArg (fun g : Bool => AV.one (.v (.bool g))) hg.symm
theorem impl_NameOk_all (s : ByteArray) : ∀ i u r, impl_NameOk_b1 s i u = .done r → r = false := by
  intro i u r hr
  unfold impl_NameOk_b1 at hr
  simp only [Bool.cond_eq_ite] at hr
  repeat' split at hr
  all_goals (first | (cases hr; rfl) | cases hr)
theorem impl_NameOk_size {s : ByteArray} (h : impl_NameOk s = true) : s.size ≤ 8 := by
  unfold impl_NameOk at h
  rcases loopC_all (impl_NameOk_all s) s.size 0 () with ⟨u, e⟩ | e
  · rw [e] at h
    simp [Fin.get, impl_within, Bool.cond_eq_ite] at h
    omega
  · rw [e] at h; cases h
def impl_PlainOk_b1 (p0 : ByteArray) (i1 : Nat) (s1 : Unit) : Step (Unit) Bool :=
  (bif (!(impl_within (IntKind.i64.wrap (((p0).data.getD i1 0).toNat : Int)) 32 126)) then (.done false) else (bif ((((p0).data.getD i1 0).toNat : Int) == 34) then (.done false) else (.next ())))
def impl_PlainOk (p0 : ByteArray) : Bool :=
  (Fin.get (fun s1 => (decide ((((p0).size : Nat) : Int) ≤ 20))) (loopC (impl_PlainOk_b1 p0) 0 () (p0).size))
theorem c_impl_PlainOk (p0 : ByteArray) : FnOk prog 50 [.one (.v (.string p0))] ⟨.one (.v (.bool (impl_PlainOk p0))), [], [], false⟩ := by
  refine FnOk.intro (E := env) envOk wide func50 rfl (by kernel_rfl) rfl rfl ?_
  refine loop_rule (α := CntSt (impl_PlainOk_b1 p0) () (p0).size) [0] (fun x1 => [(3, .one (.v (.int .i64 ((x1.i : Nat) : Int))))]) (fun x1 => []) (fun x1 => (p0).size - x1.i) .init [] ?_ (fun x1 => ?_)
  · exact ⟨rfl, ⟨rfl, rfl, trivial⟩, trivial, trivial⟩
  · refine fun hN => ?_
    have hN1 : (_ : Nat) ≤ 9223372036854775807 := hN rfl
    refine And.intro (fun (h2 : (decide (((x1.i : Nat) : Int) < (((p0).size : Nat) : Int))) = true) => ?_) (fun (h2 : (decide (((x1.i : Nat) : Int) < (((p0).size : Nat) : Int))) = false) => ?_)
    · have hi1 : x1.i < (p0).size := by (first | omega | (simp; done) | (simp; omega) | (simp at *; omega) | (simp at *; done) | (simp_all; done) | (simp_all; omega))
      have hw1 : IntKind.i64.wrap (((x1.i : Nat) : Int) + 1) = ((x1.i + 1 : Nat) : Int) := by (rw [Go.Ev.wrap_small] <;> omega)
      refine And.intro (fun _ => by (first | omega | (simp; done) | (simp; omega) | (simp at *; omega) | (simp at *; done) | (simp_all; done) | (simp_all; omega))) ?_
      refine ⟨_, _, c_impl_within (IntKind.i64.wrap (((p0).data.getD x1.i 0).toNat : Int)) 32 126, (FzAs.same _), ?_⟩
      refine litE (m := 1) rfl ?_
      refine And.intro (fun (h3 : (!(impl_within (IntKind.i64.wrap (((p0).data.getD x1.i 0).toNat : Int)) 32 126)) = false) => ?_) (fun (h3 : (!(impl_within (IntKind.i64.wrap (((p0).data.getD x1.i 0).toNat : Int)) 32 126)) = true) => ?_)
      · refine And.intro (fun _ => by (first | omega | (simp; done) | (simp; omega) | (simp at *; omega) | (simp at *; done) | (simp_all; done) | (simp_all; omega))) ?_
        refine And.intro (fun (h4 : ((((p0).data.getD x1.i 0).toNat : Int) == 34) = true) => ?_) (fun (h4 : ((((p0).data.getD x1.i 0).toNat : Int) == 34) = false) => ?_)
        · have hb1 := x1.out hi1 (by first | rfl | simp only [impl_PlainOk_b1, h2, h3, h4, cond_true, cond_false, Bool.not_true, Bool.not_false, Option.getD_some, Step.isNext_stop, Step.isNext_done, Step.fin_stop, Step.fin_done, Fin.get_fin, Fin.get_done])
          refine And.intro (fun _ => .v _) ?_
          have hg : impl_PlainOk p0 = false := by
            first | rfl | (simp only [impl_PlainOk, impl_PlainOk_b1, h2, h3, h4, hb1, cond_true, cond_false, Step.fin_stop, Step.fin_done, Fin.get_fin, Fin.get_done, Step.fin_next, Bool.not_true, Bool.not_false, Option.getD_some]) | (simp [impl_PlainOk, impl_PlainOk_b1, h2, h3, h4, hb1, cond_true, cond_false, Step.fin_stop, Step.fin_done, Fin.get_fin, Fin.get_done, Step.fin_next, Bool.not_true, Bool.not_false, Option.getD_some])
          exact congrArg (fun g : Bool => AV.one (.v (.bool g))) hg.symm
        · refine x1.go hi1 (v := ()) (by first | rfl | simp only [impl_PlainOk_b1, h2, h3, h4, cond_true, cond_false, Bool.not_true, Bool.not_false, Option.getD_some, Step.fin_stop, Step.fin_done, Fin.get_fin, Fin.get_done]) [] (by show _ - (x1.i + 1) < _ - x1.i; omega) ?_
          exact ⟨rfl, ⟨(eqInt hw1), rfl, trivial⟩, trivial, trivial⟩
      · have hb1 := x1.out hi1 (by first | rfl | simp only [impl_PlainOk_b1, h2, h3, cond_true, cond_false, Bool.not_true, Bool.not_false, Option.getD_some, Step.isNext_stop, Step.isNext_done, Step.fin_stop, Step.fin_done, Fin.get_fin, Fin.get_done])
        refine And.intro (fun _ => .v _) ?_
        have hg : impl_PlainOk p0 = false := by
          first | rfl | (simp only [impl_PlainOk, impl_PlainOk_b1, h2, h3, hb1, cond_true, cond_false, Step.fin_stop, Step.fin_done, Fin.get_fin, Fin.get_done, Step.fin_next, Bool.not_true, Bool.not_false, Option.getD_some]) | (simp [impl_PlainOk, impl_PlainOk_b1, h2, h3, hb1, cond_true, cond_false, Step.fin_stop, Step.fin_done, Fin.get_fin, Fin.get_done, Step.fin_next, Bool.not_true, Bool.not_false, Option.getD_some])
        exact congrArg (fun g : Bool => AV.one (.v (.bool g))) hg.symm
    · have hf1 := x1.fin (show ¬ x1.i < (p0).size by (first | omega | (simp; done) | (simp; omega) | (simp at *; omega) | (simp at *; done) | (simp_all; done) | (simp_all; omega)))
      refine fun hN => ?_
      have hN5 : (_ : Nat) ≤ 9223372036854775807 := hN rfl
      refine And.intro (fun _ => .v _) ?_
      have hg : impl_PlainOk p0 = (decide ((((p0).size : Nat) : Int) ≤ 20)) := by
        first | rfl | (simp only [impl_PlainOk, impl_PlainOk_b1, h2, hf1, cond_true, cond_false, Step.fin_stop, Step.fin_done, Fin.get_fin, Fin.get_done, Step.fin_next, Bool.not_true, Bool.not_false, Option.getD_some]) | (simp [impl_PlainOk, impl_PlainOk_b1, h2, hf1, cond_true, cond_false, Step.fin_stop, Step.fin_done, Fin.get_fin, Fin.get_done, Step.fin_next, Bool.not_true, Bool.not_false, Option.getD_some])
      exact congrArg (fun g : Bool => AV.one (.v (.bool g))) hg.symm
theorem impl_PlainOk_all (s : ByteArray) : ∀ i u r, impl_PlainOk_b1 s i u = .done r → r = false := by
  intro i u r hr
  unfold impl_PlainOk_b1 at hr
  simp only [Bool.cond_eq_ite] at hr
  repeat' split at hr
  all_goals (first | (cases hr; rfl) | cases hr)
theorem impl_PlainOk_size {s : ByteArray} (h : impl_PlainOk s = true) : s.size ≤ 20 := by
  unfold impl_PlainOk at h
  rcases loopC_all (impl_PlainOk_all s) s.size 0 () with ⟨u, e⟩ | e
  · rw [e] at h
    simp [Fin.get] at h
    omega
  · rw [e] at h; cases h
def impl_AttrOk (p0 : Attr) : Bool :=
  (bif p0.Num then (bif (impl_NameOk p0.Key) then (bif (impl_within p0.N 0 2147483647) then (decide (p0.Text = (ByteArray.mk #[]))) else false) else false) else (bif (impl_NameOk p0.Key) then (bif (impl_PlainOk p0.Text) then (p0.N == 0) else false) else false))
theorem c_impl_AttrOk (p0 : Attr) : FnOk prog 42 [.agg (Attr.cells p0)] ⟨.one (.v (.bool (impl_AttrOk p0))), [], [], false⟩ := by
  refine FnOk.intro (E := env) envOk wide func42 rfl (by kernel_rfl) rfl rfl ?_
  refine litE (m := 0) rfl ?_
  refine And.intro (fun (h1 : p0.Num = true) => ?_) (fun (h1 : p0.Num = false) => ?_)
  · refine ⟨_, _, c_impl_NameOk p0.Key, (FzAs.same _), ?_⟩
    refine litE (m := 2) rfl ?_
    refine And.intro (fun (h2 : (impl_NameOk p0.Key) = true) => ?_) (fun (h2 : (impl_NameOk p0.Key) = false) => ?_)
    · refine ⟨_, _, c_impl_within p0.N 0 2147483647, (FzAs.same _), ?_⟩
      refine litE (m := 3) rfl ?_
      refine And.intro (fun (h3 : (impl_within p0.N 0 2147483647) = true) => ?_) (fun (h3 : (impl_within p0.N 0 2147483647) = false) => ?_)
      · refine And.intro (fun _ => .v _) ?_
        have hg : impl_AttrOk p0 = (decide (p0.Text = (ByteArray.mk #[]))) := by
          first | rfl | (simp only [impl_AttrOk, h1, h2, h3, cond_true, cond_false, Step.fin_stop, Step.fin_done, Fin.get_fin, Fin.get_done, Step.fin_next, Bool.not_true, Bool.not_false, Option.getD_some]) | (simp [impl_AttrOk, h1, h2, h3, cond_true, cond_false, Step.fin_stop, Step.fin_done, Fin.get_fin, Fin.get_done, Step.fin_next, Bool.not_true, Bool.not_false, Option.getD_some])
        exact congrArg (fun g : Bool => AV.one (.v (.bool g))) hg.symm
      · refine And.intro (fun _ => .v _) ?_
        have hg : impl_AttrOk p0 = false := by
          first | rfl | (simp only [impl_AttrOk, h1, h2, h3, cond_true, cond_false, Step.fin_stop, Step.fin_done, Fin.get_fin, Fin.get_done, Step.fin_next, Bool.not_true, Bool.not_false, Option.getD_some]) | (simp [impl_AttrOk, h1, h2, h3, cond_true, cond_false, Step.fin_stop, Step.fin_done, Fin.get_fin, Fin.get_done, Step.fin_next, Bool.not_true, Bool.not_false, Option.getD_some])
        exact congrArg (fun g : Bool => AV.one (.v (.bool g))) hg.symm
    · refine And.intro (fun _ => .v _) ?_
      have hg : impl_AttrOk p0 = false := by
        first | rfl | (simp only [impl_AttrOk, h1, h2, cond_true, cond_false, Step.fin_stop, Step.fin_done, Fin.get_fin, Fin.get_done, Step.fin_next, Bool.not_true, Bool.not_false, Option.getD_some]) | (simp [impl_AttrOk, h1, h2, cond_true, cond_false, Step.fin_stop, Step.fin_done, Fin.get_fin, Fin.get_done, Step.fin_next, Bool.not_true, Bool.not_false, Option.getD_some])
      exact congrArg (fun g : Bool => AV.one (.v (.bool g))) hg.symm
  · refine ⟨_, _, c_impl_NameOk p0.Key, (FzAs.same _), ?_⟩
    refine litE (m := 2) rfl ?_
    refine And.intro (fun (h4 : (impl_NameOk p0.Key) = true) => ?_) (fun (h4 : (impl_NameOk p0.Key) = false) => ?_)
    · refine ⟨_, _, c_impl_PlainOk p0.Text, (FzAs.same _), ?_⟩
      refine litE (m := 3) rfl ?_
      refine And.intro (fun (h5 : (impl_PlainOk p0.Text) = true) => ?_) (fun (h5 : (impl_PlainOk p0.Text) = false) => ?_)
      · refine And.intro (fun _ => .v _) ?_
        have hg : impl_AttrOk p0 = (p0.N == 0) := by
          first | rfl | (simp only [impl_AttrOk, h1, h4, h5, cond_true, cond_false, Step.fin_stop, Step.fin_done, Fin.get_fin, Fin.get_done, Step.fin_next, Bool.not_true, Bool.not_false, Option.getD_some]) | (simp [impl_AttrOk, h1, h4, h5, cond_true, cond_false, Step.fin_stop, Step.fin_done, Fin.get_fin, Fin.get_done, Step.fin_next, Bool.not_true, Bool.not_false, Option.getD_some])
        exact congrArg (fun g : Bool => AV.one (.v (.bool g))) hg.symm
      · refine And.intro (fun _ => .v _) ?_
        have hg : impl_AttrOk p0 = false := by
          first | rfl | (simp only [impl_AttrOk, h1, h4, h5, cond_true, cond_false, Step.fin_stop, Step.fin_done, Fin.get_fin, Fin.get_done, Step.fin_next, Bool.not_true, Bool.not_false, Option.getD_some]) | (simp [impl_AttrOk, h1, h4, h5, cond_true, cond_false, Step.fin_stop, Step.fin_done, Fin.get_fin, Fin.get_done, Step.fin_next, Bool.not_true, Bool.not_false, Option.getD_some])
        exact congrArg (fun g : Bool => AV.one (.v (.bool g))) hg.symm
    · refine And.intro (fun _ => .v _) ?_
      have hg : impl_AttrOk p0 = false := by
        first | rfl | (simp only [impl_AttrOk, h1, h4, cond_true, cond_false, Step.fin_stop, Step.fin_done, Fin.get_fin, Fin.get_done, Step.fin_next, Bool.not_true, Bool.not_false, Option.getD_some]) | (simp [impl_AttrOk, h1, h4, cond_true, cond_false, Step.fin_stop, Step.fin_done, Fin.get_fin, Fin.get_done, Step.fin_next, Bool.not_true, Bool.not_false, Option.getD_some])
      exact congrArg (fun g : Bool => AV.one (.v (.bool g))) hg.symm
theorem impl_AttrOk_size {a : Attr} (h : impl_AttrOk a = true) : a.Key.size ≤ 8 ∧ (a.Num = false → a.Text.size ≤ 20) := by
  unfold impl_AttrOk at h
  cases hn : impl_NameOk a.Key with
  | false => rw [hn] at h; cases a.Num <;> simp at h
  | true =>
    refine ⟨impl_NameOk_size hn, fun h0 => ?_⟩
    rw [h0, hn] at h
    cases hp : impl_PlainOk a.Text with
    | false => rw [hp] at h; simp at h
    | true => exact impl_PlainOk_size hp
def impl_AttrsOk_b1 (p0 : (List Attr)) (i1 : Nat) (s1 : Unit) (a1 : Attr) : Step (Unit) Bool :=
  (bif (!(impl_AttrOk a1)) then (.done false) else (bif (decide (((i1 : Nat) : Int) > 0)) then (bif (!Op.bytesLess ((p0[((IntKind.i64.wrap (((i1 : Nat) : Int) - 1))).toNat]?.getD default).Key).toList (a1.Key).toList) then (.done false) else (.next ())) else (.next ())))
def impl_AttrsOk (p0 : (List Attr)) : Bool :=
  (Fin.get (fun s1 => (decide ((((p0).length : Nat) : Int) ≤ 4))) (loopL (impl_AttrsOk_b1 p0) 0 () p0))
theorem c_impl_AttrsOk (p0 : (List Attr)) : FnOk prog 40 [.one (.s false 4 (List.map Attr.cells p0))] ⟨.one (.v (.bool (impl_AttrsOk p0))), [], [], false⟩ := by
  refine FnOk.intro (E := env) envOk wide func40 rfl (by kernel_rfl) rfl rfl ?_
  refine lenE (k := (p0).length) (by simp) (fun hN1 => ?_)
  refine loop_rule (α := LstSt (impl_AttrsOk_b1 p0) () p0) [0, 5, 6] (fun x1 => [(7, .one (.v (.int .i64 ((x1.i : Nat) : Int))))]) (fun x1 => []) (fun x1 => (p0).length - x1.i) .init [] ?_ (fun x1 => ?_)
  · exact ⟨rfl, ⟨rfl, rfl, rfl, rfl, trivial⟩, trivial, trivial⟩
  · refine And.intro (fun (h2 : (decide (((x1.i : Nat) : Int) < (((p0).length : Nat) : Int))) = true) => ?_) (fun (h2 : (decide (((x1.i : Nat) : Int) < (((p0).length : Nat) : Int))) = false) => ?_)
    · have hi1 : x1.i < (p0).length := by simpa using h2
      have hw1 : IntKind.i64.wrap ((x1.i : Int) + 1) = ((x1.i + 1 : Nat) : Int) := wrap_succ hi1 (by first | assumption | omega)
      refine And.intro (fun _ => by first | exact idx_at hi1 | exact idx_of (by first | omega | (first | omega | (simp; done) | (simp; omega) | (simp at *; omega) | (simp at *; done) | (simp_all; done) | (simp_all; omega))) (by assumption) | (have h9 : ((x1.i : Nat) : Int) > 0 := (by simpa using ‹decide (((x1.i : Nat) : Int) > 0) = true›); have hj : x1.i < p0.length := hi1; have e9 : IntKind.i64.wrap (((x1.i : Nat) : Int) - 1) = ((x1.i : Nat) : Int) - 1 := (by rw [Go.Ev.wrap_small (n := ((x1.i : Nat) : Int) - 1)] <;> omega); rw [e9, List.length_map]; omega)) (rowAtE (i := x1.i) (l := p0) rfl hi1 ?_)
      refine litE (m := 0) rfl ?_
      refine .inl ⟨by kernel_rfl, ?_⟩
      refine ⟨_, _, c_impl_AttrOk (p0[x1.i]'hi1), (FzAs.same _), ?_⟩
      refine And.intro (fun (h3 : (!(impl_AttrOk (p0[x1.i]'hi1))) = false) => ?_) (fun (h3 : (!(impl_AttrOk (p0[x1.i]'hi1))) = true) => ?_)
      · refine And.intro (fun (h4 : (decide (((x1.i : Nat) : Int) > 0)) = true) => ?_) (fun (h4 : (decide (((x1.i : Nat) : Int) > 0)) = false) => ?_)
        · refine And.intro (fun _ => by first | exact idx_at hi1 | exact idx_of (by first | omega | (first | omega | (simp; done) | (simp; omega) | (simp at *; omega) | (simp at *; done) | (simp_all; done) | (simp_all; omega))) (by assumption) | (have h9 : ((x1.i : Nat) : Int) > 0 := (by simpa using ‹decide (((x1.i : Nat) : Int) > 0) = true›); have hj : x1.i < p0.length := hi1; have e9 : IntKind.i64.wrap (((x1.i : Nat) : Int) - 1) = ((x1.i : Nat) : Int) - 1 := (by rw [Go.Ev.wrap_small (n := ((x1.i : Nat) : Int) - 1)] <;> omega); rw [e9, List.length_map]; omega)) (rowOfE (i := ((IntKind.i64.wrap (((x1.i : Nat) : Int) - 1))).toNat) (l := p0) rfl (fun e5 he5 => ?_))
          refine And.intro (fun (h6 : (!Op.bytesLess (e5.Key).toList ((p0[x1.i]'hi1).Key).toList) = true) => ?_) (fun (h6 : (!Op.bytesLess (e5.Key).toList ((p0[x1.i]'hi1).Key).toList) = false) => ?_)
          · have hb1 := x1.out hi1 (by first | rfl | simp only [impl_AttrsOk_b1, h2, h3, h4, he5, h6, cond_true, cond_false, Bool.not_true, Bool.not_false, Option.getD_some, Step.isNext_stop, Step.isNext_done, Step.fin_stop, Step.fin_done, Fin.get_fin, Fin.get_done])
            refine And.intro (fun _ => .v _) ?_
            have hg : impl_AttrsOk p0 = false := by
              first | rfl | (simp only [impl_AttrsOk, impl_AttrsOk_b1, h2, h3, h4, he5, h6, hb1, cond_true, cond_false, Step.fin_stop, Step.fin_done, Fin.get_fin, Fin.get_done, Step.fin_next, Bool.not_true, Bool.not_false, Option.getD_some]) | (simp [impl_AttrsOk, impl_AttrsOk_b1, h2, h3, h4, he5, h6, hb1, cond_true, cond_false, Step.fin_stop, Step.fin_done, Fin.get_fin, Fin.get_done, Step.fin_next, Bool.not_true, Bool.not_false, Option.getD_some])
            exact congrArg (fun g : Bool => AV.one (.v (.bool g))) hg.symm
          · refine x1.go hi1 (v := ()) (by first | rfl | simp only [impl_AttrsOk_b1, h2, h3, h4, he5, h6, cond_true, cond_false, Bool.not_true, Bool.not_false, Option.getD_some, Step.fin_stop, Step.fin_done, Fin.get_fin, Fin.get_done]) [] (by show _ - (x1.i + 1) < _ - x1.i; omega) ?_
            exact ⟨rfl, ⟨(eqInt hw1), rfl, rfl, rfl, trivial⟩, trivial, trivial⟩
        · refine x1.go hi1 (v := ()) (by first | rfl | simp only [impl_AttrsOk_b1, h2, h3, h4, cond_true, cond_false, Bool.not_true, Bool.not_false, Option.getD_some, Step.fin_stop, Step.fin_done, Fin.get_fin, Fin.get_done]) [] (by show _ - (x1.i + 1) < _ - x1.i; omega) ?_
          exact ⟨rfl, ⟨(eqInt hw1), rfl, rfl, rfl, trivial⟩, trivial, trivial⟩
      · have hb1 := x1.out hi1 (by first | rfl | simp only [impl_AttrsOk_b1, h2, h3, cond_true, cond_false, Bool.not_true, Bool.not_false, Option.getD_some, Step.isNext_stop, Step.isNext_done, Step.fin_stop, Step.fin_done, Fin.get_fin, Fin.get_done])
        refine And.intro (fun _ => .v _) ?_
        have hg : impl_AttrsOk p0 = false := by
          first | rfl | (simp only [impl_AttrsOk, impl_AttrsOk_b1, h2, h3, hb1, cond_true, cond_false, Step.fin_stop, Step.fin_done, Fin.get_fin, Fin.get_done, Step.fin_next, Bool.not_true, Bool.not_false, Option.getD_some]) | (simp [impl_AttrsOk, impl_AttrsOk_b1, h2, h3, hb1, cond_true, cond_false, Step.fin_stop, Step.fin_done, Fin.get_fin, Fin.get_done, Step.fin_next, Bool.not_true, Bool.not_false, Option.getD_some])
        exact congrArg (fun g : Bool => AV.one (.v (.bool g))) hg.symm
    · have hf1 := x1.fin (show ¬ x1.i < (p0).length by simpa using h2)
      refine lenE (k := (p0).length) (by simp) (fun hN7 => ?_)
      refine And.intro (fun _ => .v _) ?_
      have hg : impl_AttrsOk p0 = (decide ((((p0).length : Nat) : Int) ≤ 4)) := by
        first | rfl | (simp only [impl_AttrsOk, impl_AttrsOk_b1, h2, hf1, cond_true, cond_false, Step.fin_stop, Step.fin_done, Fin.get_fin, Fin.get_done, Step.fin_next, Bool.not_true, Bool.not_false, Option.getD_some]) | (simp [impl_AttrsOk, impl_AttrsOk_b1, h2, hf1, cond_true, cond_false, Step.fin_stop, Step.fin_done, Fin.get_fin, Fin.get_done, Step.fin_next, Bool.not_true, Bool.not_false, Option.getD_some])
      exact congrArg (fun g : Bool => AV.one (.v (.bool g))) hg.symm
theorem impl_AttrsOk_all (l : List Attr) : ∀ i u a r, impl_AttrsOk_b1 l i u a = .done r → r = false := by
  intro i u a r hr
  unfold impl_AttrsOk_b1 at hr
  simp only [Bool.cond_eq_ite] at hr
  repeat' split at hr
  all_goals (first | (cases hr; rfl) | cases hr)
theorem impl_AttrsOk_len {l : List Attr} (h : impl_AttrsOk l = true) : l.length ≤ 4 := by
  unfold impl_AttrsOk at h
  rcases loopL_all (impl_AttrsOk_all l) l 0 () with ⟨u, e⟩ | e
  · rw [e] at h
    simp [Fin.get] at h
    omega
  · rw [e] at h; cases h
def impl_AttrSize (p0 : Attr) : Int :=
  (bif p0.Num then (IntKind.i64.wrap ((((p0.Key).size : Nat) : Int) + 4)) else (IntKind.i64.wrap ((((p0.Key).size : Nat) : Int) + (((p0.Text).size : Nat) : Int))))
theorem c_impl_AttrSize (p0 : Attr) : FnOk prog 48 [.agg (Attr.cells p0)] ⟨.one (.v (.int .i64 (impl_AttrSize p0))), [], [], false⟩ := by
  refine FnOk.intro (E := env) envOk wide func48 rfl (by kernel_rfl) rfl rfl ?_
  refine litE (m := 0) rfl ?_
  refine And.intro (fun (h1 : p0.Num = true) => ?_) (fun (h1 : p0.Num = false) => ?_)
  · refine fun hN => ?_
    have hN2 : (_ : Nat) ≤ 9223372036854775807 := hN rfl
    refine And.intro (fun _ => .v _) ?_
    have hg : impl_AttrSize p0 = (IntKind.i64.wrap ((((p0.Key).size : Nat) : Int) + 4)) := by
      first | rfl | (simp only [impl_AttrSize, h1, cond_true, cond_false, Step.fin_stop, Step.fin_done, Fin.get_fin, Fin.get_done, Step.fin_next, Bool.not_true, Bool.not_false, Option.getD_some]) | (simp [impl_AttrSize, h1, cond_true, cond_false, Step.fin_stop, Step.fin_done, Fin.get_fin, Fin.get_done, Step.fin_next, Bool.not_true, Bool.not_false, Option.getD_some])
    exact congrArg (fun g : Int => AV.one (.v (.int .i64 g))) hg.symm
  · refine fun hN => ?_
    have hN3 : (_ : Nat) ≤ 9223372036854775807 := hN rfl
    refine fun hN => ?_
    have hN4 : (_ : Nat) ≤ 9223372036854775807 := hN rfl
    refine And.intro (fun _ => .v _) ?_
    have hg : impl_AttrSize p0 = (IntKind.i64.wrap ((((p0.Key).size : Nat) : Int) + (((p0.Text).size : Nat) : Int))) := by
      first | rfl | (simp only [impl_AttrSize, h1, cond_true, cond_false, Step.fin_stop, Step.fin_done, Fin.get_fin, Fin.get_done, Step.fin_next, Bool.not_true, Bool.not_false, Option.getD_some]) | (simp [impl_AttrSize, h1, cond_true, cond_false, Step.fin_stop, Step.fin_done, Fin.get_fin, Fin.get_done, Step.fin_next, Bool.not_true, Bool.not_false, Option.getD_some])
    exact congrArg (fun g : Int => AV.one (.v (.int .i64 g))) hg.symm
def impl_SizeOf_b1 (i1 : Nat) (s1 : Int) (a1 : Attr) : Step (Int) Int :=
  (.next (IntKind.i64.wrap (s1 + (impl_AttrSize a1))))
def impl_SizeOf (p0 : Span) : Int :=
  (Fin.get (fun s1 => s1) (loopL impl_SizeOf_b1 0 12 p0.Attrs))
theorem c_impl_SizeOf (p0 : Span) : FnOk prog 41 [.agg ((Span.cells false) p0)] ⟨.one (.v (.int .i64 (impl_SizeOf p0))), [], [], false⟩ := by
  refine FnOk.intro (E := env) envOk wide func41 rfl (by kernel_rfl) rfl rfl ?_
  refine litE (m := 0) rfl ?_
  refine lenE (k := (p0.Attrs).length) (by simp) (fun hN1 => ?_)
  refine loop_rule (α := LstSt impl_SizeOf_b1 12 p0.Attrs) [7, 8] (fun x1 => [(3, .one (.v (.int .i64 x1.s))), (9, .one (.v (.int .i64 ((x1.i : Nat) : Int))))]) (fun x1 => [.dead]) (fun x1 => (p0.Attrs).length - x1.i) .init [none] ?_ (fun x1 => ?_)
  · exact ⟨rfl, ⟨rfl, rfl, rfl, rfl, trivial⟩, trivial, trivial⟩
  · refine And.intro (fun (h2 : (decide (((x1.i : Nat) : Int) < (((p0.Attrs).length : Nat) : Int))) = true) => ?_) (fun (h2 : (decide (((x1.i : Nat) : Int) < (((p0.Attrs).length : Nat) : Int))) = false) => ?_)
    · have hi1 : x1.i < (p0.Attrs).length := by simpa using h2
      have hw1 : IntKind.i64.wrap ((x1.i : Int) + 1) = ((x1.i + 1 : Nat) : Int) := wrap_succ hi1 (by first | assumption | omega)
      refine And.intro (fun _ => by exact idx_at hi1) (rowAtE (i := x1.i) (l := p0.Attrs) rfl hi1 ?_)
      refine litE (m := 1) rfl ?_
      refine ⟨_, _, c_impl_AttrSize (p0.Attrs[x1.i]'hi1), (FzAs.same _), ?_⟩
      refine litE (m := 3) rfl ?_
      refine x1.go hi1 (v := (IntKind.i64.wrap (x1.s + (impl_AttrSize (p0.Attrs[x1.i]'hi1))))) (by first | rfl | simp only [impl_SizeOf_b1, h2, cond_true, cond_false, Bool.not_true, Bool.not_false, Option.getD_some, Step.fin_stop, Step.fin_done, Fin.get_fin, Fin.get_done]) [none] (by show _ - (x1.i + 1) < _ - x1.i; omega) ?_
      exact ⟨rfl, ⟨rfl, (eqInt hw1), rfl, rfl, trivial⟩, trivial, trivial⟩
    · have hf1 := x1.fin (show ¬ x1.i < (p0.Attrs).length by simpa using h2)
      refine And.intro (fun _ => .v _) ?_
      have hg : impl_SizeOf p0 = x1.s := by
        first | rfl | (simp only [impl_SizeOf, impl_SizeOf_b1, h2, hf1, cond_true, cond_false, Step.fin_stop, Step.fin_done, Fin.get_fin, Fin.get_done, Step.fin_next, Bool.not_true, Bool.not_false, Option.getD_some]) | (simp [impl_SizeOf, impl_SizeOf_b1, h2, hf1, cond_true, cond_false, Step.fin_stop, Step.fin_done, Fin.get_fin, Fin.get_done, Step.fin_next, Bool.not_true, Bool.not_false, Option.getD_some])
      exact congrArg (fun g : Int => AV.one (.v (.int .i64 g))) hg.symm
def impl_SpanOk (p0 : Span) : Bool :=
  (bif (impl_within p0.Trace 1 999) then (bif (impl_within p0.Id 1 999) then (bif (impl_within p0.End 0 99999) then (bif (impl_within p0.Start 0 p0.End) then (bif (impl_AttrsOk p0.Attrs) then (decide ((impl_SizeOf p0) ≤ 96)) else false) else false) else false) else false) else false)
theorem c_impl_SpanOk (p0 : Span) : FnOk prog 29 [.agg ((Span.cells false) p0)] ⟨.one (.v (.bool (impl_SpanOk p0))), [], [], false⟩ := by
  refine FnOk.intro (E := env) envOk wide func29 rfl (by kernel_rfl) rfl rfl ?_
  refine litE (m := 0) rfl ?_
  refine ⟨_, _, c_impl_within p0.Trace 1 999, (FzAs.same _), ?_⟩
  refine litE (m := 2) rfl ?_
  refine And.intro (fun (h1 : (impl_within p0.Trace 1 999) = true) => ?_) (fun (h1 : (impl_within p0.Trace 1 999) = false) => ?_)
  · refine ⟨_, _, c_impl_within p0.Id 1 999, (FzAs.same _), ?_⟩
    refine litE (m := 3) rfl ?_
    refine And.intro (fun (h2 : (impl_within p0.Id 1 999) = true) => ?_) (fun (h2 : (impl_within p0.Id 1 999) = false) => ?_)
    · refine ⟨_, _, c_impl_within p0.End 0 99999, (FzAs.same _), ?_⟩
      refine litE (m := 4) rfl ?_
      refine And.intro (fun (h3 : (impl_within p0.End 0 99999) = true) => ?_) (fun (h3 : (impl_within p0.End 0 99999) = false) => ?_)
      · refine ⟨_, _, c_impl_within p0.Start 0 p0.End, (FzAs.same _), ?_⟩
        refine litE (m := 5) rfl ?_
        refine And.intro (fun (h4 : (impl_within p0.Start 0 p0.End) = true) => ?_) (fun (h4 : (impl_within p0.Start 0 p0.End) = false) => ?_)
        · refine ⟨_, _, c_impl_AttrsOk p0.Attrs, (FzAs.same _), ?_⟩
          refine litE (m := 6) rfl ?_
          refine And.intro (fun (h5 : (impl_AttrsOk p0.Attrs) = true) => ?_) (fun (h5 : (impl_AttrsOk p0.Attrs) = false) => ?_)
          · refine ⟨_, _, c_impl_SizeOf p0, (FzAs.same _), ?_⟩
            refine litE (m := 7) rfl ?_
            refine And.intro (fun _ => .v _) ?_
            have hg : impl_SpanOk p0 = (decide ((impl_SizeOf p0) ≤ 96)) := by
              first | rfl | (simp only [impl_SpanOk, h1, h2, h3, h4, h5, cond_true, cond_false, Step.fin_stop, Step.fin_done, Fin.get_fin, Fin.get_done, Step.fin_next, Bool.not_true, Bool.not_false, Option.getD_some]) | (simp [impl_SpanOk, h1, h2, h3, h4, h5, cond_true, cond_false, Step.fin_stop, Step.fin_done, Fin.get_fin, Fin.get_done, Step.fin_next, Bool.not_true, Bool.not_false, Option.getD_some])
            exact congrArg (fun g : Bool => AV.one (.v (.bool g))) hg.symm
          · refine And.intro (fun _ => .v _) ?_
            have hg : impl_SpanOk p0 = false := by
              first | rfl | (simp only [impl_SpanOk, h1, h2, h3, h4, h5, cond_true, cond_false, Step.fin_stop, Step.fin_done, Fin.get_fin, Fin.get_done, Step.fin_next, Bool.not_true, Bool.not_false, Option.getD_some]) | (simp [impl_SpanOk, h1, h2, h3, h4, h5, cond_true, cond_false, Step.fin_stop, Step.fin_done, Fin.get_fin, Fin.get_done, Step.fin_next, Bool.not_true, Bool.not_false, Option.getD_some])
            exact congrArg (fun g : Bool => AV.one (.v (.bool g))) hg.symm
        · refine And.intro (fun _ => .v _) ?_
          have hg : impl_SpanOk p0 = false := by
            first | rfl | (simp only [impl_SpanOk, h1, h2, h3, h4, cond_true, cond_false, Step.fin_stop, Step.fin_done, Fin.get_fin, Fin.get_done, Step.fin_next, Bool.not_true, Bool.not_false, Option.getD_some]) | (simp [impl_SpanOk, h1, h2, h3, h4, cond_true, cond_false, Step.fin_stop, Step.fin_done, Fin.get_fin, Fin.get_done, Step.fin_next, Bool.not_true, Bool.not_false, Option.getD_some])
          exact congrArg (fun g : Bool => AV.one (.v (.bool g))) hg.symm
      · refine And.intro (fun _ => .v _) ?_
        have hg : impl_SpanOk p0 = false := by
          first | rfl | (simp only [impl_SpanOk, h1, h2, h3, cond_true, cond_false, Step.fin_stop, Step.fin_done, Fin.get_fin, Fin.get_done, Step.fin_next, Bool.not_true, Bool.not_false, Option.getD_some]) | (simp [impl_SpanOk, h1, h2, h3, cond_true, cond_false, Step.fin_stop, Step.fin_done, Fin.get_fin, Fin.get_done, Step.fin_next, Bool.not_true, Bool.not_false, Option.getD_some])
        exact congrArg (fun g : Bool => AV.one (.v (.bool g))) hg.symm
    · refine And.intro (fun _ => .v _) ?_
      have hg : impl_SpanOk p0 = false := by
        first | rfl | (simp only [impl_SpanOk, h1, h2, cond_true, cond_false, Step.fin_stop, Step.fin_done, Fin.get_fin, Fin.get_done, Step.fin_next, Bool.not_true, Bool.not_false, Option.getD_some]) | (simp [impl_SpanOk, h1, h2, cond_true, cond_false, Step.fin_stop, Step.fin_done, Fin.get_fin, Fin.get_done, Step.fin_next, Bool.not_true, Bool.not_false, Option.getD_some])
      exact congrArg (fun g : Bool => AV.one (.v (.bool g))) hg.symm
  · refine And.intro (fun _ => .v _) ?_
    have hg : impl_SpanOk p0 = false := by
      first | rfl | (simp only [impl_SpanOk, h1, cond_true, cond_false, Step.fin_stop, Step.fin_done, Fin.get_fin, Fin.get_done, Step.fin_next, Bool.not_true, Bool.not_false, Option.getD_some]) | (simp [impl_SpanOk, h1, cond_true, cond_false, Step.fin_stop, Step.fin_done, Fin.get_fin, Fin.get_done, Step.fin_next, Bool.not_true, Bool.not_false, Option.getD_some])
    exact congrArg (fun g : Bool => AV.one (.v (.bool g))) hg.symm
theorem impl_SpanOk_len {s : Span} (h : impl_SpanOk s = true) : s.Attrs.length ≤ 4 := by
  unfold impl_SpanOk at h
  cases ha : impl_AttrsOk s.Attrs with
  | true => exact impl_AttrsOk_len ha
  | false =>
    rw [ha] at h
    simp [Bool.cond_eq_ite] at h
def impl_NumText (p0 : Int) : ByteArray :=
  (itoaS p0)
theorem c_impl_NumText (p0 : Int) : FnOk prog 19 [.one (.v (.int .i64 p0))] ⟨.one (.v (.string (impl_NumText p0))), [], [], false⟩ := by
  refine FnOk.intro (E := env) envOk wide func19 rfl (by kernel_rfl) rfl rfl ?_
  refine ⟨_, _, c_itoa p0, (FzAs.same _), ?_⟩
  refine litE (m := 1) rfl ?_
  refine And.intro (fun _ => .v _) ?_
  have hg : impl_NumText p0 = (itoaS p0) := by
    first | rfl | (simp only [impl_NumText, cond_true, cond_false, Step.fin_stop, Step.fin_done, Fin.get_fin, Fin.get_done, Step.fin_next, Bool.not_true, Bool.not_false, Option.getD_some]) | (simp [impl_NumText, cond_true, cond_false, Step.fin_stop, Step.fin_done, Fin.get_fin, Fin.get_done, Step.fin_next, Bool.not_true, Bool.not_false, Option.getD_some])
  exact congrArg (fun g : ByteArray => AV.one (.v (.string g))) hg.symm
theorem impl_NumText_size {n : Int} (h : I64 n) : (impl_NumText n).size ≤ 20 := itoaS_size h.1 h.2
def impl_AttrText (p0 : Attr) : ByteArray :=
  (bif (!(impl_AttrOk p0)) then (ByteArray.mk #[]) else (bif p0.Num then ((p0.Key ++ (ByteArray.mk #[61])) ++ (impl_NumText p0.N)) else (((p0.Key ++ (ByteArray.mk #[61, 34])) ++ p0.Text) ++ (ByteArray.mk #[34]))))
theorem cr_impl_AttrText (p0 : Attr) (hr0 : Attr.rg p0) : FnOk prog 30 [.agg (Attr.cells p0)] ⟨.one (.v (.string (impl_AttrText p0))), [], [], false⟩ := by
  refine FnOk.intro (E := env) envOk wide func30 rfl (by kernel_rfl) rfl rfl ?_
  refine litE (m := 0) rfl ?_
  refine ⟨_, _, c_impl_AttrOk p0, (FzAs.same _), ?_⟩
  refine litE (m := 2) rfl ?_
  refine And.intro (fun (h1 : (!(impl_AttrOk p0)) = true) => ?_) (fun (h1 : (!(impl_AttrOk p0)) = false) => ?_)
  · refine And.intro (fun _ => .v _) ?_
    have hg : impl_AttrText p0 = (ByteArray.mk #[]) := by
      first | rfl | (simp only [impl_AttrText, h1, cond_true, cond_false, Step.fin_stop, Step.fin_done, Fin.get_fin, Fin.get_done, Step.fin_next, Bool.not_true, Bool.not_false, Option.getD_some]) | (simp [impl_AttrText, h1, cond_true, cond_false, Step.fin_stop, Step.fin_done, Fin.get_fin, Fin.get_done, Step.fin_next, Bool.not_true, Bool.not_false, Option.getD_some])
    exact congrArg (fun g : ByteArray => AV.one (.v (.string g))) hg.symm
  · refine And.intro (fun (h2 : p0.Num = true) => ?_) (fun (h2 : p0.Num = false) => ?_)
    · refine .inl ⟨by kernel_rfl, ?_⟩
      refine And.intro (fun _ => by have ho := impl_AttrOk_size (a := p0) (by simpa using h1); have hz := impl_NumText_size hr0.N; (try have ht := ho.2 h2); (try simp only [ByteArray.size_append]); simp only [bsz, List.size_toArray, List.length_cons, List.length_nil]; omega) ?_
      refine ⟨_, _, c_impl_NumText p0.N, (FzAs.same _), ?_⟩
      refine And.intro (fun _ => by have ho := impl_AttrOk_size (a := p0) (by simpa using h1); have hz := impl_NumText_size hr0.N; (try have ht := ho.2 h2); (try simp only [ByteArray.size_append]); simp only [bsz, List.size_toArray, List.length_cons, List.length_nil]; omega) ?_
      refine And.intro (fun _ => .v _) ?_
      have hg : impl_AttrText p0 = ((p0.Key ++ (ByteArray.mk #[61])) ++ (impl_NumText p0.N)) := by
        first | rfl | (simp only [impl_AttrText, h1, h2, cond_true, cond_false, Step.fin_stop, Step.fin_done, Fin.get_fin, Fin.get_done, Step.fin_next, Bool.not_true, Bool.not_false, Option.getD_some]) | (simp [impl_AttrText, h1, h2, cond_true, cond_false, Step.fin_stop, Step.fin_done, Fin.get_fin, Fin.get_done, Step.fin_next, Bool.not_true, Bool.not_false, Option.getD_some])
      exact congrArg (fun g : ByteArray => AV.one (.v (.string g))) hg.symm
    · refine And.intro (fun _ => by have ho := impl_AttrOk_size (a := p0) (by simpa using h1); have hz := impl_NumText_size hr0.N; (try have ht := ho.2 h2); (try simp only [ByteArray.size_append]); simp only [bsz, List.size_toArray, List.length_cons, List.length_nil]; omega) ?_
      refine And.intro (fun _ => by have ho := impl_AttrOk_size (a := p0) (by simpa using h1); have hz := impl_NumText_size hr0.N; (try have ht := ho.2 h2); (try simp only [ByteArray.size_append]); simp only [bsz, List.size_toArray, List.length_cons, List.length_nil]; omega) ?_
      refine And.intro (fun _ => by have ho := impl_AttrOk_size (a := p0) (by simpa using h1); have hz := impl_NumText_size hr0.N; (try have ht := ho.2 h2); (try simp only [ByteArray.size_append]); simp only [bsz, List.size_toArray, List.length_cons, List.length_nil]; omega) ?_
      refine And.intro (fun _ => .v _) ?_
      have hg : impl_AttrText p0 = (((p0.Key ++ (ByteArray.mk #[61, 34])) ++ p0.Text) ++ (ByteArray.mk #[34])) := by
        first | rfl | (simp only [impl_AttrText, h1, h2, cond_true, cond_false, Step.fin_stop, Step.fin_done, Fin.get_fin, Fin.get_done, Step.fin_next, Bool.not_true, Bool.not_false, Option.getD_some]) | (simp [impl_AttrText, h1, h2, cond_true, cond_false, Step.fin_stop, Step.fin_done, Fin.get_fin, Fin.get_done, Step.fin_next, Bool.not_true, Bool.not_false, Option.getD_some])
      exact congrArg (fun g : ByteArray => AV.one (.v (.string g))) hg.symm
theorem c_impl_AttrText (p0 : Attr) : FnOk prog 30 [.agg (Attr.cells p0)] ⟨.one (.v (.string (impl_AttrText p0))), [], [], false⟩ :=
  FnOk.fits ⟨_, func30, by kernel_rfl, by kernel_rfl⟩ (fun hf => cr_impl_AttrText p0 (rg_Attr hf.1))
theorem impl_AttrText_size {a : Attr} (h : I64 a.N) : (impl_AttrText a).size ≤ 40 := by
  unfold impl_AttrText
  cases ho : impl_AttrOk a with
  | false => simp only [Bool.not_false, cond_true, bsz, List.size_toArray, List.length_cons, List.length_nil]; omega
  | true =>
    have h1 := impl_AttrOk_size ho
    have h2 := impl_NumText_size h
    cases hn : a.Num with
    | true => simp only [Bool.not_true, cond_true, cond_false, ByteArray.size_append, bsz, List.size_toArray, List.length_cons, List.length_nil]; omega
    | false => have h3 := h1.2 hn; simp only [Bool.not_true, cond_false, ByteArray.size_append, bsz, List.size_toArray, List.length_cons, List.length_nil]; omega
def impl_SpanText_b1 (i1 : Nat) (s1 : ByteArray) (a1 : Attr) : Step (ByteArray) ByteArray :=
  (.next (s1 ++ ((ByteArray.mk #[32]) ++ (impl_AttrText a1))))
def impl_SpanText_b2 (i2 : Nat) (s2 : ByteArray) (a2 : Attr) : Step (ByteArray) ByteArray :=
  (.next (s2 ++ ((ByteArray.mk #[32]) ++ (impl_AttrText a2))))
def impl_SpanText (p0 : Span) : ByteArray :=
  (bif (!(impl_SpanOk p0)) then (ByteArray.mk #[]) else (bif p0.Err then (Fin.get (fun s1 => s1) (loopL impl_SpanText_b1 0 ((((((((impl_NumText p0.Trace) ++ (ByteArray.mk #[47])) ++ (impl_NumText p0.Id)) ++ (ByteArray.mk #[32])) ++ (impl_NumText p0.Start)) ++ (ByteArray.mk #[45])) ++ (impl_NumText p0.End)) ++ (ByteArray.mk #[32, 102, 97, 105, 108, 101, 100])) p0.Attrs)) else (Fin.get (fun s2 => s2) (loopL impl_SpanText_b2 0 (((((((impl_NumText p0.Trace) ++ (ByteArray.mk #[47])) ++ (impl_NumText p0.Id)) ++ (ByteArray.mk #[32])) ++ (impl_NumText p0.Start)) ++ (ByteArray.mk #[45])) ++ (impl_NumText p0.End)) p0.Attrs))))
theorem cr_impl_SpanText (p0 : Span) (hr0 : Span.rg p0) : FnOk prog 20 [.agg ((Span.cells false) p0)] ⟨.one (.v (.string (impl_SpanText p0))), [], [], false⟩ := by
  refine FnOk.intro (E := env) envOk wide func20 rfl (by kernel_rfl) rfl rfl ?_
  refine litE (m := 0) rfl ?_
  refine ⟨_, _, c_impl_SpanOk p0, (FzAs.same _), ?_⟩
  refine litE (m := 2) rfl ?_
  refine And.intro (fun (h1 : (!(impl_SpanOk p0)) = true) => ?_) (fun (h1 : (!(impl_SpanOk p0)) = false) => ?_)
  · refine And.intro (fun _ => .v _) ?_
    have hg : impl_SpanText p0 = (ByteArray.mk #[]) := by
      first | rfl | (simp only [impl_SpanText, h1, cond_true, cond_false, Step.fin_stop, Step.fin_done, Fin.get_fin, Fin.get_done, Step.fin_next, Bool.not_true, Bool.not_false, Option.getD_some]) | (simp [impl_SpanText, h1, cond_true, cond_false, Step.fin_stop, Step.fin_done, Fin.get_fin, Fin.get_done, Step.fin_next, Bool.not_true, Bool.not_false, Option.getD_some])
    exact congrArg (fun g : ByteArray => AV.one (.v (.string g))) hg.symm
  · refine .inl ⟨by kernel_rfl, ?_⟩
    refine ⟨_, _, c_impl_NumText p0.Trace, (FzAs.same _), ?_⟩
    refine And.intro (fun _ => by have z1 := impl_NumText_size hr0.Trace; have z2 := impl_NumText_size hr0.Id; have z3 := impl_NumText_size hr0.Start; have z4 := impl_NumText_size hr0.End; have hl := impl_SpanOk_len (s := p0) (by simpa using h1); (try have y1 := impl_AttrText_size (hr0.Attrs.2 _ (List.getElem_mem hi1)).N); (try have y2 := impl_AttrText_size (hr0.Attrs.2 _ (List.getElem_mem hi2)).N); (try simp only [ByteArray.size_append]); simp only [bsz, List.size_toArray, List.length_cons, List.length_nil]; omega) ?_
    refine ⟨_, _, c_impl_NumText p0.Id, (FzAs.same _), ?_⟩
    refine And.intro (fun _ => by have z1 := impl_NumText_size hr0.Trace; have z2 := impl_NumText_size hr0.Id; have z3 := impl_NumText_size hr0.Start; have z4 := impl_NumText_size hr0.End; have hl := impl_SpanOk_len (s := p0) (by simpa using h1); (try have y1 := impl_AttrText_size (hr0.Attrs.2 _ (List.getElem_mem hi1)).N); (try have y2 := impl_AttrText_size (hr0.Attrs.2 _ (List.getElem_mem hi2)).N); (try simp only [ByteArray.size_append]); simp only [bsz, List.size_toArray, List.length_cons, List.length_nil]; omega) ?_
    refine And.intro (fun _ => by have z1 := impl_NumText_size hr0.Trace; have z2 := impl_NumText_size hr0.Id; have z3 := impl_NumText_size hr0.Start; have z4 := impl_NumText_size hr0.End; have hl := impl_SpanOk_len (s := p0) (by simpa using h1); (try have y1 := impl_AttrText_size (hr0.Attrs.2 _ (List.getElem_mem hi1)).N); (try have y2 := impl_AttrText_size (hr0.Attrs.2 _ (List.getElem_mem hi2)).N); (try simp only [ByteArray.size_append]); simp only [bsz, List.size_toArray, List.length_cons, List.length_nil]; omega) ?_
    refine ⟨_, _, c_impl_NumText p0.Start, (FzAs.same _), ?_⟩
    refine And.intro (fun _ => by have z1 := impl_NumText_size hr0.Trace; have z2 := impl_NumText_size hr0.Id; have z3 := impl_NumText_size hr0.Start; have z4 := impl_NumText_size hr0.End; have hl := impl_SpanOk_len (s := p0) (by simpa using h1); (try have y1 := impl_AttrText_size (hr0.Attrs.2 _ (List.getElem_mem hi1)).N); (try have y2 := impl_AttrText_size (hr0.Attrs.2 _ (List.getElem_mem hi2)).N); (try simp only [ByteArray.size_append]); simp only [bsz, List.size_toArray, List.length_cons, List.length_nil]; omega) ?_
    refine And.intro (fun _ => by have z1 := impl_NumText_size hr0.Trace; have z2 := impl_NumText_size hr0.Id; have z3 := impl_NumText_size hr0.Start; have z4 := impl_NumText_size hr0.End; have hl := impl_SpanOk_len (s := p0) (by simpa using h1); (try have y1 := impl_AttrText_size (hr0.Attrs.2 _ (List.getElem_mem hi1)).N); (try have y2 := impl_AttrText_size (hr0.Attrs.2 _ (List.getElem_mem hi2)).N); (try simp only [ByteArray.size_append]); simp only [bsz, List.size_toArray, List.length_cons, List.length_nil]; omega) ?_
    refine ⟨_, _, c_impl_NumText p0.End, (FzAs.same _), ?_⟩
    refine And.intro (fun _ => by have z1 := impl_NumText_size hr0.Trace; have z2 := impl_NumText_size hr0.Id; have z3 := impl_NumText_size hr0.Start; have z4 := impl_NumText_size hr0.End; have hl := impl_SpanOk_len (s := p0) (by simpa using h1); (try have y1 := impl_AttrText_size (hr0.Attrs.2 _ (List.getElem_mem hi1)).N); (try have y2 := impl_AttrText_size (hr0.Attrs.2 _ (List.getElem_mem hi2)).N); (try simp only [ByteArray.size_append]); simp only [bsz, List.size_toArray, List.length_cons, List.length_nil]; omega) ?_
    refine And.intro (fun (h2 : p0.Err = true) => ?_) (fun (h2 : p0.Err = false) => ?_)
    · refine And.intro (fun _ => by have z1 := impl_NumText_size hr0.Trace; have z2 := impl_NumText_size hr0.Id; have z3 := impl_NumText_size hr0.Start; have z4 := impl_NumText_size hr0.End; have hl := impl_SpanOk_len (s := p0) (by simpa using h1); (try have y1 := impl_AttrText_size (hr0.Attrs.2 _ (List.getElem_mem hi1)).N); (try have y2 := impl_AttrText_size (hr0.Attrs.2 _ (List.getElem_mem hi2)).N); (try simp only [ByteArray.size_append]); simp only [bsz, List.size_toArray, List.length_cons, List.length_nil]; omega) ?_
      refine lenE (k := (p0.Attrs).length) (by simp) (fun hN3 => ?_)
      refine loop_rule (α := LstInv (fun i s => ByteArray.size s ≤ 200 + 50 * i) impl_SpanText_b1 ((((((((impl_NumText p0.Trace) ++ (ByteArray.mk #[47])) ++ (impl_NumText p0.Id)) ++ (ByteArray.mk #[32])) ++ (impl_NumText p0.Start)) ++ (ByteArray.mk #[45])) ++ (impl_NumText p0.End)) ++ (ByteArray.mk #[32, 102, 97, 105, 108, 101, 100])) p0.Attrs) [32, 33] (fun x1 => [(3, .one (.v (.string x1.s))), (34, .one (.v (.int .i64 ((x1.i : Nat) : Int))))]) (fun x1 => [.dead, .dead]) (fun x1 => (p0.Attrs).length - x1.i) (.init (by have z1 := impl_NumText_size hr0.Trace; have z2 := impl_NumText_size hr0.Id; have z3 := impl_NumText_size hr0.Start; have z4 := impl_NumText_size hr0.End; show ByteArray.size _ ≤ 200 + 50 * 0; (try simp only [ByteArray.size_append]); simp only [bsz, List.size_toArray, List.length_cons, List.length_nil]; omega)) [none, none] ?_ (fun x1 => ?_)
      · exact ⟨rfl, ⟨rfl, rfl, rfl, rfl, trivial⟩, trivial, trivial⟩
      · have hI1 : ByteArray.size x1.s ≤ 200 + 50 * x1.i := by simpa using x1.hI
        refine And.intro (fun (h4 : (decide (((x1.i : Nat) : Int) < (((p0.Attrs).length : Nat) : Int))) = true) => ?_) (fun (h4 : (decide (((x1.i : Nat) : Int) < (((p0.Attrs).length : Nat) : Int))) = false) => ?_)
        · have hi1 : x1.i < (p0.Attrs).length := by simpa using h4
          have hw1 : IntKind.i64.wrap ((x1.i : Int) + 1) = ((x1.i + 1 : Nat) : Int) := wrap_succ hi1 (by first | assumption | omega)
          refine And.intro (fun _ => by exact idx_at hi1) (rowAtE (i := x1.i) (l := p0.Attrs) rfl hi1 ?_)
          refine litE (m := 2) rfl ?_
          refine ⟨_, _, c_impl_AttrText (p0.Attrs[x1.i]'hi1), (FzAs.same _), ?_⟩
          refine litE (m := 4) rfl ?_
          refine And.intro (fun _ => by have z1 := impl_NumText_size hr0.Trace; have z2 := impl_NumText_size hr0.Id; have z3 := impl_NumText_size hr0.Start; have z4 := impl_NumText_size hr0.End; have hl := impl_SpanOk_len (s := p0) (by simpa using h1); (try have y1 := impl_AttrText_size (hr0.Attrs.2 _ (List.getElem_mem hi1)).N); (try have y2 := impl_AttrText_size (hr0.Attrs.2 _ (List.getElem_mem hi2)).N); (try simp only [ByteArray.size_append]); simp only [bsz, List.size_toArray, List.length_cons, List.length_nil]; omega) ?_
          refine And.intro (fun _ => by have z1 := impl_NumText_size hr0.Trace; have z2 := impl_NumText_size hr0.Id; have z3 := impl_NumText_size hr0.Start; have z4 := impl_NumText_size hr0.End; have hl := impl_SpanOk_len (s := p0) (by simpa using h1); (try have y1 := impl_AttrText_size (hr0.Attrs.2 _ (List.getElem_mem hi1)).N); (try have y2 := impl_AttrText_size (hr0.Attrs.2 _ (List.getElem_mem hi2)).N); (try simp only [ByteArray.size_append]); simp only [bsz, List.size_toArray, List.length_cons, List.length_nil]; omega) ?_
          refine x1.go' hi1 (v := (x1.s ++ ((ByteArray.mk #[32]) ++ (impl_AttrText (p0.Attrs[x1.i]'hi1))))) (by first | rfl | simp only [impl_SpanText_b1, h1, h2, h4, cond_true, cond_false, Bool.not_true, Bool.not_false, Option.getD_some, Step.fin_stop, Step.fin_done, Fin.get_fin, Fin.get_done]) (by have z1 := impl_NumText_size hr0.Trace; have z2 := impl_NumText_size hr0.Id; have z3 := impl_NumText_size hr0.Start; have z4 := impl_NumText_size hr0.End; (try have y1 := impl_AttrText_size (hr0.Attrs.2 _ (List.getElem_mem hi1)).N); show ByteArray.size _ ≤ 200 + 50 * (x1.i + 1); (try simp only [ByteArray.size_append]); simp only [bsz, List.size_toArray, List.length_cons, List.length_nil]; omega) [none, none] (by show _ - (x1.i + 1) < _ - x1.i; omega) ?_
          exact ⟨rfl, ⟨rfl, (eqInt hw1), rfl, rfl, trivial⟩, trivial, trivial⟩
        · have hf1 := x1.fin (show ¬ x1.i < (p0.Attrs).length by simpa using h4)
          refine And.intro (fun _ => .v _) ?_
          have hg : impl_SpanText p0 = x1.s := by
            first | rfl | (simp only [impl_SpanText, impl_SpanText_b1, h1, h2, h4, hf1, cond_true, cond_false, Step.fin_stop, Step.fin_done, Fin.get_fin, Fin.get_done, Step.fin_next, Bool.not_true, Bool.not_false, Option.getD_some]) | (simp [impl_SpanText, impl_SpanText_b1, h1, h2, h4, hf1, cond_true, cond_false, Step.fin_stop, Step.fin_done, Fin.get_fin, Fin.get_done, Step.fin_next, Bool.not_true, Bool.not_false, Option.getD_some])
          exact congrArg (fun g : ByteArray => AV.one (.v (.string g))) hg.symm
    · refine lenE (k := (p0.Attrs).length) (by simp) (fun hN5 => ?_)
      refine loop_rule (α := LstInv (fun i s => ByteArray.size s ≤ 200 + 50 * i) impl_SpanText_b2 (((((((impl_NumText p0.Trace) ++ (ByteArray.mk #[47])) ++ (impl_NumText p0.Id)) ++ (ByteArray.mk #[32])) ++ (impl_NumText p0.Start)) ++ (ByteArray.mk #[45])) ++ (impl_NumText p0.End)) p0.Attrs) [32, 33] (fun x2 => [(3, .one (.v (.string x2.s))), (34, .one (.v (.int .i64 ((x2.i : Nat) : Int))))]) (fun x2 => [.dead, .dead]) (fun x2 => (p0.Attrs).length - x2.i) (.init (by have z1 := impl_NumText_size hr0.Trace; have z2 := impl_NumText_size hr0.Id; have z3 := impl_NumText_size hr0.Start; have z4 := impl_NumText_size hr0.End; show ByteArray.size _ ≤ 200 + 50 * 0; (try simp only [ByteArray.size_append]); simp only [bsz, List.size_toArray, List.length_cons, List.length_nil]; omega)) [none, none] ?_ (fun x2 => ?_)
      · exact ⟨rfl, ⟨rfl, rfl, rfl, rfl, trivial⟩, trivial, trivial⟩
      · have hI2 : ByteArray.size x2.s ≤ 200 + 50 * x2.i := by simpa using x2.hI
        refine And.intro (fun (h6 : (decide (((x2.i : Nat) : Int) < (((p0.Attrs).length : Nat) : Int))) = true) => ?_) (fun (h6 : (decide (((x2.i : Nat) : Int) < (((p0.Attrs).length : Nat) : Int))) = false) => ?_)
        · have hi2 : x2.i < (p0.Attrs).length := by simpa using h6
          have hw2 : IntKind.i64.wrap ((x2.i : Int) + 1) = ((x2.i + 1 : Nat) : Int) := wrap_succ hi2 (by first | assumption | omega)
          refine And.intro (fun _ => by exact idx_at hi2) (rowAtE (i := x2.i) (l := p0.Attrs) rfl hi2 ?_)
          refine litE (m := 2) rfl ?_
          refine ⟨_, _, c_impl_AttrText (p0.Attrs[x2.i]'hi2), (FzAs.same _), ?_⟩
          refine litE (m := 4) rfl ?_
          refine And.intro (fun _ => by have z1 := impl_NumText_size hr0.Trace; have z2 := impl_NumText_size hr0.Id; have z3 := impl_NumText_size hr0.Start; have z4 := impl_NumText_size hr0.End; have hl := impl_SpanOk_len (s := p0) (by simpa using h1); (try have y1 := impl_AttrText_size (hr0.Attrs.2 _ (List.getElem_mem hi1)).N); (try have y2 := impl_AttrText_size (hr0.Attrs.2 _ (List.getElem_mem hi2)).N); (try simp only [ByteArray.size_append]); simp only [bsz, List.size_toArray, List.length_cons, List.length_nil]; omega) ?_
          refine And.intro (fun _ => by have z1 := impl_NumText_size hr0.Trace; have z2 := impl_NumText_size hr0.Id; have z3 := impl_NumText_size hr0.Start; have z4 := impl_NumText_size hr0.End; have hl := impl_SpanOk_len (s := p0) (by simpa using h1); (try have y1 := impl_AttrText_size (hr0.Attrs.2 _ (List.getElem_mem hi1)).N); (try have y2 := impl_AttrText_size (hr0.Attrs.2 _ (List.getElem_mem hi2)).N); (try simp only [ByteArray.size_append]); simp only [bsz, List.size_toArray, List.length_cons, List.length_nil]; omega) ?_
          refine x2.go' hi2 (v := (x2.s ++ ((ByteArray.mk #[32]) ++ (impl_AttrText (p0.Attrs[x2.i]'hi2))))) (by first | rfl | simp only [impl_SpanText_b1, impl_SpanText_b2, h1, h2, h6, cond_true, cond_false, Bool.not_true, Bool.not_false, Option.getD_some, Step.fin_stop, Step.fin_done, Fin.get_fin, Fin.get_done]) (by have z1 := impl_NumText_size hr0.Trace; have z2 := impl_NumText_size hr0.Id; have z3 := impl_NumText_size hr0.Start; have z4 := impl_NumText_size hr0.End; (try have y2 := impl_AttrText_size (hr0.Attrs.2 _ (List.getElem_mem hi2)).N); show ByteArray.size _ ≤ 200 + 50 * (x2.i + 1); (try simp only [ByteArray.size_append]); simp only [bsz, List.size_toArray, List.length_cons, List.length_nil]; omega) [none, none] (by show _ - (x2.i + 1) < _ - x2.i; omega) ?_
          exact ⟨rfl, ⟨rfl, (eqInt hw2), rfl, rfl, trivial⟩, trivial, trivial⟩
        · have hf2 := x2.fin (show ¬ x2.i < (p0.Attrs).length by simpa using h6)
          refine And.intro (fun _ => .v _) ?_
          have hg : impl_SpanText p0 = x2.s := by
            first | rfl | (simp only [impl_SpanText, impl_SpanText_b1, impl_SpanText_b2, h1, h2, h6, hf2, cond_true, cond_false, Step.fin_stop, Step.fin_done, Fin.get_fin, Fin.get_done, Step.fin_next, Bool.not_true, Bool.not_false, Option.getD_some]) | (simp [impl_SpanText, impl_SpanText_b1, impl_SpanText_b2, h1, h2, h6, hf2, cond_true, cond_false, Step.fin_stop, Step.fin_done, Fin.get_fin, Fin.get_done, Step.fin_next, Bool.not_true, Bool.not_false, Option.getD_some])
          exact congrArg (fun g : ByteArray => AV.one (.v (.string g))) hg.symm
theorem c_impl_SpanText (p0 : Span) : FnOk prog 20 [.agg ((Span.cells false) p0)] ⟨.one (.v (.string (impl_SpanText p0))), [], [], false⟩ :=
  FnOk.fits ⟨_, func20, by kernel_rfl, by kernel_rfl⟩ (fun hf => cr_impl_SpanText p0 (rg_Span hf.1))
theorem cat_loop {α ρ : Type} {f : α → ByteArray} {b : Nat → ByteArray → α → Step ByteArray ρ} {M : Nat} : ∀ (l : List α) (i : Nat) (s : ByteArray), (∀ a ∈ l, (f a).size ≤ M) → (∀ i s a, b i s a = .next (s ++ f a)) → ∃ t, loopL b i s l = .fin t ∧ t.size ≤ s.size + M * l.length
  | [], i, s, _, _ => ⟨s, rfl, by simp⟩
  | a :: l, i, s, hf, hb => by
    unfold loopL
    rw [hb]
    obtain ⟨t, e, h⟩ := cat_loop l (i + 1) (s ++ f a) (fun x hx => hf x (by simp [hx])) hb
    refine ⟨t, e, ?_⟩
    have := hf a (by simp)
    rw [ByteArray.size_append] at h
    rw [List.length_cons, Nat.mul_add]
    omega
theorem impl_SpanText_size {s : Span} (h : Span.rg s) : (impl_SpanText s).size ≤ 500 := by
  unfold impl_SpanText
  cases ho : impl_SpanOk s with
  | false => simp only [Bool.not_false, cond_true, bsz, List.size_toArray, List.length_cons, List.length_nil]; omega
  | true =>
    have hl := impl_SpanOk_len ho
    have z1 := impl_NumText_size h.Trace; have z2 := impl_NumText_size h.Id; have z3 := impl_NumText_size h.Start; have z4 := impl_NumText_size h.End
    have hA : ∀ a ∈ s.Attrs, (ByteArray.mk #[32] ++ impl_AttrText a).size ≤ 41 := fun a ha => by
      have := impl_AttrText_size (h.Attrs.2 a ha).N
      simp only [ByteArray.size_append, bsz, List.size_toArray, List.length_cons, List.length_nil]; omega
    cases he : s.Err with
    | true =>
      obtain ⟨t, e, ht⟩ := cat_loop (ρ := ByteArray) (b := impl_SpanText_b1) s.Attrs 0 ((((((((impl_NumText s.Trace) ++ (ByteArray.mk #[47])) ++ (impl_NumText s.Id)) ++ (ByteArray.mk #[32])) ++ (impl_NumText s.Start)) ++ (ByteArray.mk #[45])) ++ (impl_NumText s.End)) ++ (ByteArray.mk #[32, 102, 97, 105, 108, 101, 100])) hA (fun _ _ _ => rfl)
      simp only [Bool.not_true, cond_false, cond_true, e, Fin.get]
      simp only [ByteArray.size_append, bsz, List.size_toArray, List.length_cons, List.length_nil] at ht
      omega
    | false =>
      obtain ⟨t, e, ht⟩ := cat_loop (ρ := ByteArray) (b := impl_SpanText_b2) s.Attrs 0 (((((((impl_NumText s.Trace) ++ (ByteArray.mk #[47])) ++ (impl_NumText s.Id)) ++ (ByteArray.mk #[32])) ++ (impl_NumText s.Start)) ++ (ByteArray.mk #[45])) ++ (impl_NumText s.End)) hA (fun _ _ _ => rfl)
      simp only [Bool.not_true, cond_false, e, Fin.get]
      simp only [ByteArray.size_append, bsz, List.size_toArray, List.length_cons, List.length_nil] at ht
      omega
def impl_CodeName (p0 : Int) : ByteArray :=
  (bif (!(impl_within p0 1 5)) then (ByteArray.mk #[]) else ([(ByteArray.mk #[104, 101, 108, 100]), (ByteArray.mk #[108, 97, 116, 101]), (ByteArray.mk #[103, 111, 110, 101]), (ByteArray.mk #[115, 104, 117, 116]), (ByteArray.mk #[98, 97, 100])][((IntKind.i64.wrap (p0 - 1))).toNat]?.getD default))
theorem c_impl_CodeName (p0 : Int) : FnOk prog 23 [.one (.v (.int .i64 p0))] ⟨.one (.v (.string (impl_CodeName p0))), [], [], false⟩ := by
  refine FnOk.intro (E := env) envOk wide func23 rfl (by kernel_rfl) rfl rfl ?_
  refine ⟨_, _, c_impl_within p0 1 5, (FzAs.same _), ?_⟩
  refine litE (m := 1) rfl ?_
  refine And.intro (fun (h1 : (!(impl_within p0 1 5)) = true) => ?_) (fun (h1 : (!(impl_within p0 1 5)) = false) => ?_)
  · refine And.intro (fun _ => .v _) ?_
    have hg : impl_CodeName p0 = (ByteArray.mk #[]) := by
      first | rfl | (simp only [impl_CodeName, h1, cond_true, cond_false, Step.fin_stop, Step.fin_done, Fin.get_fin, Fin.get_done, Step.fin_next, Bool.not_true, Bool.not_false, Option.getD_some]) | (simp [impl_CodeName, h1, cond_true, cond_false, Step.fin_stop, Step.fin_done, Fin.get_fin, Fin.get_done, Step.fin_next, Bool.not_true, Bool.not_false, Option.getD_some])
    exact congrArg (fun g : ByteArray => AV.one (.v (.string g))) hg.symm
  · refine litE (m := 1) rfl ?_
    refine And.intro (fun _ => by have h9 : impl_within p0 1 5 = true := (by simpa using h1); have ha : 1 ≤ p0 ∧ p0 ≤ 5 := (by simp [impl_within, Bool.cond_eq_ite] at h9; omega); rw [Go.Ev.wrap_small (n := p0 - 1) (by omega) (by omega)]; (constructor <;> (try simp) <;> omega)) ?_
    refine rowOfE (enc := cStr) (i := ((IntKind.i64.wrap (p0 - 1))).toNat) (l := [(ByteArray.mk #[104, 101, 108, 100]), (ByteArray.mk #[108, 97, 116, 101]), (ByteArray.mk #[103, 111, 110, 101]), (ByteArray.mk #[115, 104, 117, 116]), (ByteArray.mk #[98, 97, 100])]) (by first | rfl | simp) (fun e2 he2 => ?_)
    refine And.intro (fun _ => .v _) ?_
    have hg : impl_CodeName p0 = e2 := by
      first | rfl | (simp only [impl_CodeName, h1, he2, cond_true, cond_false, Step.fin_stop, Step.fin_done, Fin.get_fin, Fin.get_done, Step.fin_next, Bool.not_true, Bool.not_false, Option.getD_some]) | (simp [impl_CodeName, h1, he2, cond_true, cond_false, Step.fin_stop, Step.fin_done, Fin.get_fin, Fin.get_done, Step.fin_next, Bool.not_true, Bool.not_false, Option.getD_some])
    exact congrArg (fun g : ByteArray => AV.one (.v (.string g))) hg.symm
theorem impl_CodeName_size (n : Int) : (impl_CodeName n).size ≤ 5 := by
  unfold impl_CodeName
  cases impl_within n 1 5 with
  | false => simp only [Bool.not_false, cond_true, bsz, List.size_toArray, List.length_cons, List.length_nil]; omega
  | true =>
    simp only [Bool.not_true, cond_false]
    generalize (IntKind.i64.wrap (n - 1)).toNat = k
    match k with
    | 0 => decide
    | 1 => decide
    | 2 => decide
    | 3 => decide
    | 4 => decide
    | k + 5 => simp; decide
def laws_szAttr (p0 : Attr) (p1 : Int) : Int :=
  (bif (decide ((IntKind.i64.wrap (p1 - (((p0.Key).size : Nat) : Int))) < 0)) then (-1) else (bif (decide ((IntKind.i64.wrap ((IntKind.i64.wrap (p1 - (((p0.Key).size : Nat) : Int))) - (((p0.Text).size : Nat) : Int))) < 0)) then (-1) else (IntKind.i64.wrap ((IntKind.i64.wrap (p1 - (((p0.Key).size : Nat) : Int))) - (((p0.Text).size : Nat) : Int)))))
theorem c_laws_szAttr (p0 : Attr) (p1 : Int) : FnOk prog 34 [.agg (Attr.cells p0), .one (.v (.int .i64 p1))] ⟨.one (.v (.int .i64 (laws_szAttr p0 p1))), [], [], false⟩ := by
  refine FnOk.intro (E := env) envOk wide func34 rfl (by kernel_rfl) rfl rfl ?_
  refine litE (m := 0) rfl ?_
  refine fun hN => ?_
  have hN1 : (_ : Nat) ≤ 9223372036854775807 := hN rfl
  refine And.intro (fun (h2 : (decide ((IntKind.i64.wrap (p1 - (((p0.Key).size : Nat) : Int))) < 0)) = true) => ?_) (fun (h2 : (decide ((IntKind.i64.wrap (p1 - (((p0.Key).size : Nat) : Int))) < 0)) = false) => ?_)
  · refine And.intro (fun _ => .v _) ?_
    have hg : laws_szAttr p0 p1 = (-1) := by
      first | rfl | (simp only [laws_szAttr, h2, cond_true, cond_false, Step.fin_stop, Step.fin_done, Fin.get_fin, Fin.get_done, Step.fin_next, Bool.not_true, Bool.not_false, Option.getD_some]) | (simp [laws_szAttr, h2, cond_true, cond_false, Step.fin_stop, Step.fin_done, Fin.get_fin, Fin.get_done, Step.fin_next, Bool.not_true, Bool.not_false, Option.getD_some])
    exact congrArg (fun g : Int => AV.one (.v (.int .i64 g))) hg.symm
  · refine fun hN => ?_
    have hN3 : (_ : Nat) ≤ 9223372036854775807 := hN rfl
    refine And.intro (fun (h4 : (decide ((IntKind.i64.wrap ((IntKind.i64.wrap (p1 - (((p0.Key).size : Nat) : Int))) - (((p0.Text).size : Nat) : Int))) < 0)) = true) => ?_) (fun (h4 : (decide ((IntKind.i64.wrap ((IntKind.i64.wrap (p1 - (((p0.Key).size : Nat) : Int))) - (((p0.Text).size : Nat) : Int))) < 0)) = false) => ?_)
    · refine And.intro (fun _ => .v _) ?_
      have hg : laws_szAttr p0 p1 = (-1) := by
        first | rfl | (simp only [laws_szAttr, h2, h4, cond_true, cond_false, Step.fin_stop, Step.fin_done, Fin.get_fin, Fin.get_done, Step.fin_next, Bool.not_true, Bool.not_false, Option.getD_some]) | (simp [laws_szAttr, h2, h4, cond_true, cond_false, Step.fin_stop, Step.fin_done, Fin.get_fin, Fin.get_done, Step.fin_next, Bool.not_true, Bool.not_false, Option.getD_some])
      exact congrArg (fun g : Int => AV.one (.v (.int .i64 g))) hg.symm
    · refine And.intro (fun _ => .v _) ?_
      have hg : laws_szAttr p0 p1 = (IntKind.i64.wrap ((IntKind.i64.wrap (p1 - (((p0.Key).size : Nat) : Int))) - (((p0.Text).size : Nat) : Int))) := by
        first | rfl | (simp only [laws_szAttr, h2, h4, cond_true, cond_false, Step.fin_stop, Step.fin_done, Fin.get_fin, Fin.get_done, Step.fin_next, Bool.not_true, Bool.not_false, Option.getD_some]) | (simp [laws_szAttr, h2, h4, cond_true, cond_false, Step.fin_stop, Step.fin_done, Fin.get_fin, Fin.get_done, Step.fin_next, Bool.not_true, Bool.not_false, Option.getD_some])
      exact congrArg (fun g : Int => AV.one (.v (.int .i64 g))) hg.symm
theorem szd_laws_szAttr : Szd Attr.bd laws_szAttr := by
  intro x left hb h0 h1 h2
  unfold laws_szAttr at h2 ⊢
  unfold Attr.bd at hb ⊢
  cases c0 : decide ((IntKind.i64.wrap (left - (((x.Key).size : Nat) : Int))) < 0) with
  | true => simp [c0] at h2
  | false =>
  have p0 : 0 ≤ (IntKind.i64.wrap (left - (((x.Key).size : Nat) : Int))) := by simpa using c0
  have w0 : (IntKind.i64.wrap (left - (((x.Key).size : Nat) : Int))) = left - (((x.Key).size : Nat) : Int) := by have := hb.1; rw [Go.Ev.wrap_small] <;> omega
  have b0 : (x.Key).size ≤ 1048576 := by omega
  have u0 : (IntKind.i64.wrap (left - (((x.Key).size : Nat) : Int))) ≤ left := by omega
  have v0 : (IntKind.i64.wrap (left - (((x.Key).size : Nat) : Int))) ≤ 1048576 := by omega
  cases c1 : decide ((IntKind.i64.wrap ((IntKind.i64.wrap (left - (((x.Key).size : Nat) : Int))) - (((x.Text).size : Nat) : Int))) < 0) with
  | true => simp [c0, c1] at h2
  | false =>
  have p1 : 0 ≤ (IntKind.i64.wrap ((IntKind.i64.wrap (left - (((x.Key).size : Nat) : Int))) - (((x.Text).size : Nat) : Int))) := by simpa using c1
  have w1 : (IntKind.i64.wrap ((IntKind.i64.wrap (left - (((x.Key).size : Nat) : Int))) - (((x.Text).size : Nat) : Int))) = (IntKind.i64.wrap (left - (((x.Key).size : Nat) : Int))) - (((x.Text).size : Nat) : Int) := by have := hb.2; rw [Go.Ev.wrap_small] <;> omega
  have b1 : (x.Text).size ≤ 1048576 := by omega
  have u1 : (IntKind.i64.wrap ((IntKind.i64.wrap (left - (((x.Key).size : Nat) : Int))) - (((x.Text).size : Nat) : Int))) ≤ (IntKind.i64.wrap (left - (((x.Key).size : Nat) : Int))) := by omega
  have v1 : (IntKind.i64.wrap ((IntKind.i64.wrap (left - (((x.Key).size : Nat) : Int))) - (((x.Text).size : Nat) : Int))) ≤ 1048576 := by omega
  simp only [c0, c1, cond_false] at h2 ⊢
  exact ⟨⟨b0, b1⟩, by omega⟩
def laws_szAttrS_b1 (i1 : Nat) (s1 : Int) (a1 : Attr) : Step (Int) Int :=
  (bif (decide ((laws_szAttr a1 s1) < 0)) then (.done (-1)) else (.next (laws_szAttr a1 s1)))
def laws_szAttrS (p0 : (List Attr)) (p1 : Int) : Int :=
  (bif (decide ((IntKind.i64.wrap (p1 - (((p0).length : Nat) : Int))) < 0)) then (-1) else (Fin.get (fun s1 => s1) (loopL laws_szAttrS_b1 0 (IntKind.i64.wrap (p1 - (((p0).length : Nat) : Int))) p0)))
theorem c_laws_szAttrS (p0 : (List Attr)) (p1 : Int) : FnOk prog 24 [.one (.s false 4 (List.map Attr.cells p0)), .one (.v (.int .i64 p1))] ⟨.one (.v (.int .i64 (laws_szAttrS p0 p1))), [], [], false⟩ := by
  refine FnOk.intro (E := env) envOk wide func24 rfl (by kernel_rfl) rfl rfl ?_
  refine lenE (k := (p0).length) (by simp) (fun hN1 => ?_)
  refine And.intro (fun (h2 : (decide ((IntKind.i64.wrap (p1 - (((p0).length : Nat) : Int))) < 0)) = true) => ?_) (fun (h2 : (decide ((IntKind.i64.wrap (p1 - (((p0).length : Nat) : Int))) < 0)) = false) => ?_)
  · refine And.intro (fun _ => .v _) ?_
    have hg : laws_szAttrS p0 p1 = (-1) := by
      first | rfl | (simp only [laws_szAttrS, h2, cond_true, cond_false, Step.fin_stop, Step.fin_done, Fin.get_fin, Fin.get_done, Step.fin_next, Bool.not_true, Bool.not_false, Option.getD_some]) | (simp [laws_szAttrS, h2, cond_true, cond_false, Step.fin_stop, Step.fin_done, Fin.get_fin, Fin.get_done, Step.fin_next, Bool.not_true, Bool.not_false, Option.getD_some])
    exact congrArg (fun g : Int => AV.one (.v (.int .i64 g))) hg.symm
  · refine loop_rule (α := LstSt laws_szAttrS_b1 (IntKind.i64.wrap (p1 - (((p0).length : Nat) : Int))) p0) [0] (fun x1 => [(1, .one (.v (.int .i64 x1.s))), (5, .one (.v (.int .i64 ((x1.i : Nat) : Int))))]) (fun x1 => []) (fun x1 => (p0).length - x1.i) .init [] ?_ (fun x1 => ?_)
    · exact ⟨rfl, ⟨rfl, rfl, rfl, trivial⟩, trivial, trivial⟩
    · refine lenE (k := (p0).length) (by simp) (fun hN3 => ?_)
      refine And.intro (fun (h4 : (decide (((x1.i : Nat) : Int) < (((p0).length : Nat) : Int))) = true) => ?_) (fun (h4 : (decide (((x1.i : Nat) : Int) < (((p0).length : Nat) : Int))) = false) => ?_)
      · have hi1 : x1.i < (p0).length := by simpa using h4
        have hw1 : IntKind.i64.wrap ((x1.i : Int) + 1) = ((x1.i + 1 : Nat) : Int) := wrap_succ hi1 (by first | assumption | omega)
        refine And.intro (fun _ => by exact idx_at hi1) (rowAtE (i := x1.i) (l := p0) rfl hi1 ?_)
        refine ⟨_, _, c_laws_szAttr (p0[x1.i]'hi1) x1.s, (FzAs.same _), ?_⟩
        refine litE (m := 1) rfl ?_
        refine And.intro (fun (h5 : (decide ((laws_szAttr (p0[x1.i]'hi1) x1.s) < 0)) = true) => ?_) (fun (h5 : (decide ((laws_szAttr (p0[x1.i]'hi1) x1.s) < 0)) = false) => ?_)
        · have hb1 := x1.out hi1 (by first | rfl | simp only [laws_szAttrS_b1, h2, h4, h5, cond_true, cond_false, Bool.not_true, Bool.not_false, Option.getD_some, Step.isNext_stop, Step.isNext_done, Step.fin_stop, Step.fin_done, Fin.get_fin, Fin.get_done])
          refine And.intro (fun _ => .v _) ?_
          have hg : laws_szAttrS p0 p1 = (-1) := by
            first | rfl | (simp only [laws_szAttrS, laws_szAttrS_b1, h2, h4, h5, hb1, cond_true, cond_false, Step.fin_stop, Step.fin_done, Fin.get_fin, Fin.get_done, Step.fin_next, Bool.not_true, Bool.not_false, Option.getD_some]) | (simp [laws_szAttrS, laws_szAttrS_b1, h2, h4, h5, hb1, cond_true, cond_false, Step.fin_stop, Step.fin_done, Fin.get_fin, Fin.get_done, Step.fin_next, Bool.not_true, Bool.not_false, Option.getD_some])
          exact congrArg (fun g : Int => AV.one (.v (.int .i64 g))) hg.symm
        · refine x1.go hi1 (v := (laws_szAttr (p0[x1.i]'hi1) x1.s)) (by first | rfl | simp only [laws_szAttrS_b1, h2, h4, h5, cond_true, cond_false, Bool.not_true, Bool.not_false, Option.getD_some, Step.fin_stop, Step.fin_done, Fin.get_fin, Fin.get_done]) [] (by show _ - (x1.i + 1) < _ - x1.i; omega) ?_
          exact ⟨rfl, ⟨rfl, (eqInt hw1), rfl, trivial⟩, trivial, trivial⟩
      · have hf1 := x1.fin (show ¬ x1.i < (p0).length by simpa using h4)
        refine And.intro (fun _ => .v _) ?_
        have hg : laws_szAttrS p0 p1 = x1.s := by
          first | rfl | (simp only [laws_szAttrS, laws_szAttrS_b1, h2, h4, hf1, cond_true, cond_false, Step.fin_stop, Step.fin_done, Fin.get_fin, Fin.get_done, Step.fin_next, Bool.not_true, Bool.not_false, Option.getD_some]) | (simp [laws_szAttrS, laws_szAttrS_b1, h2, h4, hf1, cond_true, cond_false, Step.fin_stop, Step.fin_done, Fin.get_fin, Fin.get_done, Step.fin_next, Bool.not_true, Bool.not_false, Option.getD_some])
        exact congrArg (fun g : Int => AV.one (.v (.int .i64 g))) hg.symm
theorem szd_laws_szAttrS : Szd (bdS Attr.bd) laws_szAttrS := szS_ok (b := laws_szAttrS_b1) szd_laws_szAttr (fun _ _ _ => rfl) (fun _ _ => rfl)
def laws_szSpan (p0 : Span) (p1 : Int) : Int :=
  (bif (decide ((laws_szAttrS p0.Attrs p1) < 0)) then (-1) else (laws_szAttrS p0.Attrs p1))
theorem c_laws_szSpan (p0 : Span) (p1 : Int) : FnOk prog 15 [.agg ((Span.cells false) p0), .one (.v (.int .i64 p1))] ⟨.one (.v (.int .i64 (laws_szSpan p0 p1))), [], [], false⟩ := by
  refine FnOk.intro (E := env) envOk wide func15 rfl (by kernel_rfl) rfl rfl ?_
  refine litE (m := 0) rfl ?_
  refine ⟨_, _, c_laws_szAttrS p0.Attrs p1, (FzAs.same _), ?_⟩
  refine litE (m := 2) rfl ?_
  refine And.intro (fun (h1 : (decide ((laws_szAttrS p0.Attrs p1) < 0)) = true) => ?_) (fun (h1 : (decide ((laws_szAttrS p0.Attrs p1) < 0)) = false) => ?_)
  · refine And.intro (fun _ => .v _) ?_
    have hg : laws_szSpan p0 p1 = (-1) := by
      first | rfl | (simp only [laws_szSpan, h1, cond_true, cond_false, Step.fin_stop, Step.fin_done, Fin.get_fin, Fin.get_done, Step.fin_next, Bool.not_true, Bool.not_false, Option.getD_some]) | (simp [laws_szSpan, h1, cond_true, cond_false, Step.fin_stop, Step.fin_done, Fin.get_fin, Fin.get_done, Step.fin_next, Bool.not_true, Bool.not_false, Option.getD_some])
    exact congrArg (fun g : Int => AV.one (.v (.int .i64 g))) hg.symm
  · refine And.intro (fun _ => .v _) ?_
    have hg : laws_szSpan p0 p1 = (laws_szAttrS p0.Attrs p1) := by
      first | rfl | (simp only [laws_szSpan, h1, cond_true, cond_false, Step.fin_stop, Step.fin_done, Fin.get_fin, Fin.get_done, Step.fin_next, Bool.not_true, Bool.not_false, Option.getD_some]) | (simp [laws_szSpan, h1, cond_true, cond_false, Step.fin_stop, Step.fin_done, Fin.get_fin, Fin.get_done, Step.fin_next, Bool.not_true, Bool.not_false, Option.getD_some])
    exact congrArg (fun g : Int => AV.one (.v (.int .i64 g))) hg.symm
theorem szd_laws_szSpan : Szd Span.bd laws_szSpan := by
  intro x left hb h0 h1 h2
  unfold laws_szSpan at h2 ⊢
  unfold Span.bd at hb ⊢
  cases c0 : decide ((laws_szAttrS x.Attrs left) < 0) with
  | true => simp [c0] at h2
  | false =>
  have p0 : 0 ≤ (laws_szAttrS x.Attrs left) := by simpa using c0
  have z0 := szd_laws_szAttrS x.Attrs left hb h0 h1 p0
  have b0 := z0.1
  have u0 := z0.2
  have v0 : (laws_szAttrS x.Attrs left) ≤ 1048576 := by omega
  simp only [c0, cond_false] at h2 ⊢
  exact ⟨b0, by omega⟩
def laws_szDeed (p0 : Deed) (p1 : Int) : Int :=
  (bif (decide ((laws_szSpan p0.S p1) < 0)) then (-1) else (laws_szSpan p0.S p1))
theorem c_laws_szDeed (p0 : Deed) (p1 : Int) : FnOk prog 10 [.agg ((Deed.cells false) p0), .one (.v (.int .i64 p1))] ⟨.one (.v (.int .i64 (laws_szDeed p0 p1))), [], [], false⟩ := by
  refine FnOk.intro (E := env) envOk wide func10 rfl (by kernel_rfl) rfl rfl ?_
  refine litE (m := 0) rfl ?_
  refine ⟨_, _, c_laws_szSpan p0.S p1, (FzAs.same _), ?_⟩
  refine litE (m := 2) rfl ?_
  refine And.intro (fun (h1 : (decide ((laws_szSpan p0.S p1) < 0)) = true) => ?_) (fun (h1 : (decide ((laws_szSpan p0.S p1) < 0)) = false) => ?_)
  · refine And.intro (fun _ => .v _) ?_
    have hg : laws_szDeed p0 p1 = (-1) := by
      first | rfl | (simp only [laws_szDeed, h1, cond_true, cond_false, Step.fin_stop, Step.fin_done, Fin.get_fin, Fin.get_done, Step.fin_next, Bool.not_true, Bool.not_false, Option.getD_some]) | (simp [laws_szDeed, h1, cond_true, cond_false, Step.fin_stop, Step.fin_done, Fin.get_fin, Fin.get_done, Step.fin_next, Bool.not_true, Bool.not_false, Option.getD_some])
    exact congrArg (fun g : Int => AV.one (.v (.int .i64 g))) hg.symm
  · refine And.intro (fun _ => .v _) ?_
    have hg : laws_szDeed p0 p1 = (laws_szSpan p0.S p1) := by
      first | rfl | (simp only [laws_szDeed, h1, cond_true, cond_false, Step.fin_stop, Step.fin_done, Fin.get_fin, Fin.get_done, Step.fin_next, Bool.not_true, Bool.not_false, Option.getD_some]) | (simp [laws_szDeed, h1, cond_true, cond_false, Step.fin_stop, Step.fin_done, Fin.get_fin, Fin.get_done, Step.fin_next, Bool.not_true, Bool.not_false, Option.getD_some])
    exact congrArg (fun g : Int => AV.one (.v (.int .i64 g))) hg.symm
theorem szd_laws_szDeed : Szd Deed.bd laws_szDeed := by
  intro x left hb h0 h1 h2
  unfold laws_szDeed at h2 ⊢
  unfold Deed.bd at hb ⊢
  cases c0 : decide ((laws_szSpan x.S left) < 0) with
  | true => simp [c0] at h2
  | false =>
  have p0 : 0 ≤ (laws_szSpan x.S left) := by simpa using c0
  have z0 := szd_laws_szSpan x.S left hb h0 h1 p0
  have b0 := z0.1
  have u0 := z0.2
  have v0 : (laws_szSpan x.S left) ≤ 1048576 := by omega
  simp only [c0, cond_false] at h2 ⊢
  exact ⟨b0, by omega⟩
def laws_toAttr (p0 : Attr) : Attr :=
  p0
theorem c_laws_toAttr (p0 : Attr) : FnOk prog 38 [.agg (Attr.cells p0)] ⟨.agg (Attr.cells (laws_toAttr p0)), [], [], false⟩ := by
  refine FnOk.intro (E := env) envOk wide func38 rfl (by kernel_rfl) rfl rfl ?_
  refine litE (m := 0) rfl ?_
  refine litE (m := 1) rfl ?_
  refine litE (m := 2) rfl ?_
  refine And.intro (fun _ => own_Attr _) ?_
  have hg : laws_toAttr p0 = p0 := by
    first | rfl | (simp only [laws_toAttr, cond_true, cond_false, Step.fin_stop, Step.fin_done, Fin.get_fin, Fin.get_done, Step.fin_next, Bool.not_true, Bool.not_false, Option.getD_some]) | (simp [laws_toAttr, cond_true, cond_false, Step.fin_stop, Step.fin_done, Fin.get_fin, Fin.get_done, Step.fin_next, Bool.not_true, Bool.not_false, Option.getD_some])
  exact congrArg (fun g : Attr => AV.agg (Attr.cells g)) hg.symm
theorem id_laws_toAttr (x : Attr) : laws_toAttr x = x := by
  first | rfl | (simp only [laws_toAttr]; done) | (simp only [laws_toAttr]; rfl)
def laws_toAttrS_b1 (i1 : Nat) (s1 : (List Attr)) (a1 : Attr) : Step ((List Attr)) (List Attr) :=
  (.next (List.set s1 i1 (laws_toAttr a1)))
def laws_toAttrS (p0 : (List Attr)) : (List Attr) :=
  (Fin.get (fun s1 => s1) (loopL laws_toAttrS_b1 0 (List.replicate (p0).length (default : Attr)) p0))
theorem c_laws_toAttrS (p0 : (List Attr)) (hs : bdS Attr.bd 1048576 p0) : FnOk prog 27 [.one (.s false 4 (List.map Attr.cells p0))] ⟨.one (.s true 4 (List.map Attr.cells (laws_toAttrS p0))), [], [], false⟩ := by
  refine FnOk.intro (E := env) envOk wide func27 rfl (by kernel_rfl) rfl rfl ?_
  have hs1 := hs.1
  refine lenE (k := (p0).length) (by simp) (fun hN1 => ?_)
  refine And.intro (by exact ⟨rfl, by omega, by show ((48 : Nat) : Int) * _ ≤ _; omega, by omega⟩) (rowsE (Y := List.map Attr.cells (List.replicate (p0).length (default : Attr))) (by rw [List.map_replicate]; rfl) ?_)
  refine litE (m := 0) rfl ?_
  refine loop_rule (α := LstInv (fun _ s => (s).length = (p0).length) laws_toAttrS_b1 (List.replicate (p0).length (default : Attr)) p0) [0] (fun x1 => [(3, .one (.n 0 [] 1 0 (x1.s).length)), (4, .one (.v (.int .i64 ((x1.i : Nat) : Int))))]) (fun x1 => [.new ⟨4, false, List.map Attr.cells x1.s, 0⟩]) (fun x1 => (p0).length - x1.i) (.init (by simp)) [some 0] ?_ (fun x1 => ?_)
  · exact ⟨rfl, ⟨⟨rfl, rfl, rfl, rfl, by (first | rfl | (simp; done) | (simp [LstSt.init, LstSt.step, LstInv.init, CntSt.init, CntSt.step, CntInv.init, WhlSt.init, WhlSt.step]; done) | (simp [LstSt.init, LstSt.step, LstInv.init, CntSt.init, CntSt.step, CntInv.init, WhlSt.init, WhlSt.step]; omega))⟩, rfl, rfl, trivial⟩, ⟨⟨rfl, rfl, rfl⟩, trivial⟩, trivial⟩
  · have hI1 : (x1.s).length = (p0).length := by simpa using x1.hI
    refine lenE (k := (p0).length) (by simp) (fun hN2 => ?_)
    refine And.intro (fun (h3 : (decide (((x1.i : Nat) : Int) < (((p0).length : Nat) : Int))) = true) => ?_) (fun (h3 : (decide (((x1.i : Nat) : Int) < (((p0).length : Nat) : Int))) = false) => ?_)
    · have hi1 : x1.i < (p0).length := by simpa using h3
      have hw1 : IntKind.i64.wrap ((x1.i : Int) + 1) = ((x1.i + 1 : Nat) : Int) := wrap_succ hi1 (by first | assumption | omega)
      refine And.intro (fun _ => by exact idx_at hi1) (rowAtE (i := x1.i) (l := p0) rfl hi1 ?_)
      refine ⟨_, _, c_laws_toAttr (p0[x1.i]'hi1), (FzAs.same _), ?_⟩
      refine litE (m := 2) rfl ?_
      refine And.intro (fun _ => by first | exact ⟨by omega, by omega⟩ | (first | omega | (simp; done) | (simp; omega) | (simp at *; omega) | (simp at *; done) | (simp_all; done) | (simp_all; omega))) ?_
      refine rowsE (Y := List.map Attr.cells (List.set x1.s x1.i (laws_toAttr (p0[x1.i]'hi1)))) (by exact setMapE (by simp) (fun a ha => by rfl)) ?_
      refine x1.go' hi1 (v := (List.set x1.s x1.i (laws_toAttr (p0[x1.i]'hi1)))) (by first | rfl | simp only [laws_toAttrS_b1, h3, cond_true, cond_false, Bool.not_true, Bool.not_false, Option.getD_some, Step.fin_stop, Step.fin_done, Fin.get_fin, Fin.get_done]) (by simpa using x1.hI) [some 0] (by show _ - (x1.i + 1) < _ - x1.i; omega) ?_
      exact ⟨rfl, ⟨⟨rfl, rfl, rfl, rfl, by (first | rfl | (simp; done) | (simp [LstSt.init, LstSt.step, LstInv.init, CntSt.init, CntSt.step, CntInv.init, WhlSt.init, WhlSt.step]; done) | (simp [LstSt.init, LstSt.step, LstInv.init, CntSt.init, CntSt.step, CntInv.init, WhlSt.init, WhlSt.step]; omega))⟩, (eqInt hw1), rfl, trivial⟩, ⟨⟨rfl, rfl, rfl⟩, trivial⟩, trivial⟩
    · have hf1 := x1.fin (show ¬ x1.i < (p0).length by simpa using h3)
      refine And.intro (fun _ => ownSl own_Attr _) ?_
      have hg : laws_toAttrS p0 = x1.s := by
        first | rfl | (simp only [laws_toAttrS, laws_toAttrS_b1, h3, hf1, cond_true, cond_false, Step.fin_stop, Step.fin_done, Fin.get_fin, Fin.get_done, Step.fin_next, Bool.not_true, Bool.not_false, Option.getD_some]) | (simp [laws_toAttrS, laws_toAttrS_b1, h3, hf1, cond_true, cond_false, Step.fin_stop, Step.fin_done, Fin.get_fin, Fin.get_done, Step.fin_next, Bool.not_true, Bool.not_false, Option.getD_some])
      exact congrArg (fun g : (List Attr) => AV.one (.s true 4 (List.map Attr.cells g))) hg.symm
theorem id_laws_toAttrS (x : (List Attr)) : laws_toAttrS x = x := setS_ok (b := laws_toAttrS_b1) id_laws_toAttr (fun _ _ _ => rfl) (fun _ => rfl) x
def laws_toSpan (p0 : Span) : Span :=
  (Span.mk p0.Trace p0.Id p0.Start p0.End p0.Err (laws_toAttrS p0.Attrs))
theorem c_laws_toSpan (p0 : Span) (hs : Span.bd 1048576 p0) : FnOk prog 18 [.agg ((Span.cells false) p0)] ⟨.agg ((Span.cells true) (laws_toSpan p0)), [], [], false⟩ := by
  refine FnOk.intro (E := env) envOk wide func18 rfl (by kernel_rfl) rfl rfl ?_
  unfold Span.bd at hs
  refine litE (m := 0) rfl ?_
  refine litE (m := 1) rfl ?_
  refine litE (m := 2) rfl ?_
  refine ⟨_, _, c_laws_toAttrS p0.Attrs (by exact hs), (FzAs.same _), ?_⟩
  refine litE (m := 4) rfl ?_
  refine And.intro (fun _ => own_Span _) ?_
  have hg : laws_toSpan p0 = (Span.mk p0.Trace p0.Id p0.Start p0.End p0.Err (laws_toAttrS p0.Attrs)) := by
    first | rfl | (simp only [laws_toSpan, cond_true, cond_false, Step.fin_stop, Step.fin_done, Fin.get_fin, Fin.get_done, Step.fin_next, Bool.not_true, Bool.not_false, Option.getD_some]) | (simp [laws_toSpan, cond_true, cond_false, Step.fin_stop, Step.fin_done, Fin.get_fin, Fin.get_done, Step.fin_next, Bool.not_true, Bool.not_false, Option.getD_some])
  exact congrArg (fun g : Span => AV.agg ((Span.cells true) g)) hg.symm
theorem id_laws_toSpan (x : Span) : laws_toSpan x = x := by
  first | rfl | (simp only [laws_toSpan, id_laws_toAttr, id_laws_toAttrS]; done) | (simp only [laws_toSpan, id_laws_toAttr, id_laws_toAttrS]; rfl)
def laws_toDeed (p0 : Deed) : Deed :=
  (Deed.mk p0.Op p0.Task (laws_toSpan p0.S) p0.Trace p0.Stamp p0.Code p0.Keep p0.Void p0.Took p0.N p0.Forgot p0.Now p0.Inv p0.Lin p0.Res)
theorem c_laws_toDeed (p0 : Deed) (hs : Deed.bd 1048576 p0) : FnOk prog 12 [.agg ((Deed.cells false) p0)] ⟨.agg ((Deed.cells true) (laws_toDeed p0)), [], [], false⟩ := by
  refine FnOk.intro (E := env) envOk wide func12 rfl (by kernel_rfl) rfl rfl ?_
  unfold Deed.bd at hs
  refine litE (m := 0) rfl ?_
  refine litE (m := 1) rfl ?_
  refine litE (m := 2) rfl ?_
  refine ⟨_, _, c_laws_toSpan p0.S (by exact hs), (FzAs.same _), ?_⟩
  refine litE (m := 4) rfl ?_
  refine And.intro (fun _ => own_Deed _) ?_
  have hg : laws_toDeed p0 = (Deed.mk p0.Op p0.Task (laws_toSpan p0.S) p0.Trace p0.Stamp p0.Code p0.Keep p0.Void p0.Took p0.N p0.Forgot p0.Now p0.Inv p0.Lin p0.Res) := by
    first | rfl | (simp only [laws_toDeed, cond_true, cond_false, Step.fin_stop, Step.fin_done, Fin.get_fin, Fin.get_done, Step.fin_next, Bool.not_true, Bool.not_false, Option.getD_some]) | (simp [laws_toDeed, cond_true, cond_false, Step.fin_stop, Step.fin_done, Fin.get_fin, Fin.get_done, Step.fin_next, Bool.not_true, Bool.not_false, Option.getD_some])
  exact congrArg (fun g : Deed => AV.agg ((Deed.cells true) g)) hg.symm
theorem id_laws_toDeed (x : Deed) : laws_toDeed x = x := by
  first | rfl | (simp only [laws_toDeed, id_laws_toAttr, id_laws_toAttrS, id_laws_toSpan]; done) | (simp only [laws_toDeed, id_laws_toAttr, id_laws_toAttrS, id_laws_toSpan]; rfl)
def spec_l1In (p0 : Int) (p1 : Int) (p2 : Int) : Bool :=
  (bif (decide (p0 ≥ p1)) then (decide (p0 ≤ p2)) else false)
theorem c_spec_l1In (p0 : Int) (p1 : Int) (p2 : Int) : FnOk prog 32 [.one (.v (.int .i64 p0)), .one (.v (.int .i64 p1)), .one (.v (.int .i64 p2))] ⟨.one (.v (.bool (spec_l1In p0 p1 p2))), [], [], false⟩ := by
  refine FnOk.intro (E := env) envOk wide func32 rfl (by kernel_rfl) rfl rfl ?_
  refine And.intro (fun (h1 : (decide (p0 ≥ p1)) = true) => ?_) (fun (h1 : (decide (p0 ≥ p1)) = false) => ?_)
  · refine And.intro (fun _ => .v _) ?_
    have hg : spec_l1In p0 p1 p2 = (decide (p0 ≤ p2)) := by
      first | rfl | (simp only [spec_l1In, h1, cond_true, cond_false, Step.fin_stop, Step.fin_done, Fin.get_fin, Fin.get_done, Step.fin_next, Bool.not_true, Bool.not_false, Option.getD_some]) | (simp [spec_l1In, h1, cond_true, cond_false, Step.fin_stop, Step.fin_done, Fin.get_fin, Fin.get_done, Step.fin_next, Bool.not_true, Bool.not_false, Option.getD_some])
    exact congrArg (fun g : Bool => AV.one (.v (.bool g))) hg.symm
  · refine And.intro (fun _ => .v _) ?_
    have hg : spec_l1In p0 p1 p2 = false := by
      first | rfl | (simp only [spec_l1In, h1, cond_true, cond_false, Step.fin_stop, Step.fin_done, Fin.get_fin, Fin.get_done, Step.fin_next, Bool.not_true, Bool.not_false, Option.getD_some]) | (simp [spec_l1In, h1, cond_true, cond_false, Step.fin_stop, Step.fin_done, Fin.get_fin, Fin.get_done, Step.fin_next, Bool.not_true, Bool.not_false, Option.getD_some])
    exact congrArg (fun g : Bool => AV.one (.v (.bool g))) hg.symm
def spec_NameOk_b1 (p0 : ByteArray) (i1 : Nat) (s1 : Unit) : Step (Unit) Bool :=
  (bif (decide ((((p0).data.getD i1 0).toNat : Int) < 97)) then (.done false) else (bif (decide ((((p0).data.getD i1 0).toNat : Int) > 122)) then (.done false) else (.next ())))
def spec_NameOk (p0 : ByteArray) : Bool :=
  (Fin.get (fun s1 => (spec_l1In (((p0).size : Nat) : Int) 1 8)) (loopC (spec_NameOk_b1 p0) 0 () (p0).size))
theorem c_spec_NameOk (p0 : ByteArray) : FnOk prog 45 [.one (.v (.string p0))] ⟨.one (.v (.bool (spec_NameOk p0))), [], [], false⟩ := by
  refine FnOk.intro (E := env) envOk wide func45 rfl (by kernel_rfl) rfl rfl ?_
  refine loop_rule (α := CntSt (spec_NameOk_b1 p0) () (p0).size) [0] (fun x1 => [(3, .one (.v (.int .i64 ((x1.i : Nat) : Int))))]) (fun x1 => []) (fun x1 => (p0).size - x1.i) .init [] ?_ (fun x1 => ?_)
  · exact ⟨rfl, ⟨rfl, rfl, trivial⟩, trivial, trivial⟩
  · refine fun hN => ?_
    have hN1 : (_ : Nat) ≤ 9223372036854775807 := hN rfl
    refine And.intro (fun (h2 : (decide (((x1.i : Nat) : Int) < (((p0).size : Nat) : Int))) = true) => ?_) (fun (h2 : (decide (((x1.i : Nat) : Int) < (((p0).size : Nat) : Int))) = false) => ?_)
    · have hi1 : x1.i < (p0).size := by (first | omega | (simp; done) | (simp; omega) | (simp at *; omega) | (simp at *; done) | (simp_all; done) | (simp_all; omega))
      have hw1 : IntKind.i64.wrap (((x1.i : Nat) : Int) + 1) = ((x1.i + 1 : Nat) : Int) := by (rw [Go.Ev.wrap_small] <;> omega)
      refine And.intro (fun _ => by (first | omega | (simp; done) | (simp; omega) | (simp at *; omega) | (simp at *; done) | (simp_all; done) | (simp_all; omega))) ?_
      refine And.intro (fun (h3 : (decide ((((p0).data.getD x1.i 0).toNat : Int) < 97)) = false) => ?_) (fun (h3 : (decide ((((p0).data.getD x1.i 0).toNat : Int) < 97)) = true) => ?_)
      · refine And.intro (fun _ => by (first | omega | (simp; done) | (simp; omega) | (simp at *; omega) | (simp at *; done) | (simp_all; done) | (simp_all; omega))) ?_
        refine And.intro (fun (h4 : (decide ((((p0).data.getD x1.i 0).toNat : Int) > 122)) = true) => ?_) (fun (h4 : (decide ((((p0).data.getD x1.i 0).toNat : Int) > 122)) = false) => ?_)
        · have hb1 := x1.out hi1 (by first | rfl | simp only [spec_NameOk_b1, h2, h3, h4, cond_true, cond_false, Bool.not_true, Bool.not_false, Option.getD_some, Step.isNext_stop, Step.isNext_done, Step.fin_stop, Step.fin_done, Fin.get_fin, Fin.get_done])
          refine And.intro (fun _ => .v _) ?_
          have hg : spec_NameOk p0 = false := by
            first | rfl | (simp only [spec_NameOk, spec_NameOk_b1, h2, h3, h4, hb1, cond_true, cond_false, Step.fin_stop, Step.fin_done, Fin.get_fin, Fin.get_done, Step.fin_next, Bool.not_true, Bool.not_false, Option.getD_some]) | (simp [spec_NameOk, spec_NameOk_b1, h2, h3, h4, hb1, cond_true, cond_false, Step.fin_stop, Step.fin_done, Fin.get_fin, Fin.get_done, Step.fin_next, Bool.not_true, Bool.not_false, Option.getD_some])
          exact congrArg (fun g : Bool => AV.one (.v (.bool g))) hg.symm
        · refine x1.go hi1 (v := ()) (by first | rfl | simp only [spec_NameOk_b1, h2, h3, h4, cond_true, cond_false, Bool.not_true, Bool.not_false, Option.getD_some, Step.fin_stop, Step.fin_done, Fin.get_fin, Fin.get_done]) [] (by show _ - (x1.i + 1) < _ - x1.i; omega) ?_
          exact ⟨rfl, ⟨(eqInt hw1), rfl, trivial⟩, trivial, trivial⟩
      · have hb1 := x1.out hi1 (by first | rfl | simp only [spec_NameOk_b1, h2, h3, cond_true, cond_false, Bool.not_true, Bool.not_false, Option.getD_some, Step.isNext_stop, Step.isNext_done, Step.fin_stop, Step.fin_done, Fin.get_fin, Fin.get_done])
        refine And.intro (fun _ => .v _) ?_
        have hg : spec_NameOk p0 = false := by
          first | rfl | (simp only [spec_NameOk, spec_NameOk_b1, h2, h3, hb1, cond_true, cond_false, Step.fin_stop, Step.fin_done, Fin.get_fin, Fin.get_done, Step.fin_next, Bool.not_true, Bool.not_false, Option.getD_some]) | (simp [spec_NameOk, spec_NameOk_b1, h2, h3, hb1, cond_true, cond_false, Step.fin_stop, Step.fin_done, Fin.get_fin, Fin.get_done, Step.fin_next, Bool.not_true, Bool.not_false, Option.getD_some])
        exact congrArg (fun g : Bool => AV.one (.v (.bool g))) hg.symm
    · have hf1 := x1.fin (show ¬ x1.i < (p0).size by (first | omega | (simp; done) | (simp; omega) | (simp at *; omega) | (simp at *; done) | (simp_all; done) | (simp_all; omega)))
      refine fun hN => ?_
      have hN5 : (_ : Nat) ≤ 9223372036854775807 := hN rfl
      refine ⟨_, _, c_spec_l1In (((p0).size : Nat) : Int) 1 8, (FzAs.same _), ?_⟩
      refine litE (m := 1) rfl ?_
      refine And.intro (fun _ => .v _) ?_
      have hg : spec_NameOk p0 = (spec_l1In (((p0).size : Nat) : Int) 1 8) := by
        first | rfl | (simp only [spec_NameOk, spec_NameOk_b1, h2, hf1, cond_true, cond_false, Step.fin_stop, Step.fin_done, Fin.get_fin, Fin.get_done, Step.fin_next, Bool.not_true, Bool.not_false, Option.getD_some]) | (simp [spec_NameOk, spec_NameOk_b1, h2, hf1, cond_true, cond_false, Step.fin_stop, Step.fin_done, Fin.get_fin, Fin.get_done, Step.fin_next, Bool.not_true, Bool.not_false, Option.getD_some])
      exact congrArg (fun g : Bool => AV.one (.v (.bool g))) hg.symm
theorem main_NameOk (s : ByteArray) : spec_NameOk s = impl_NameOk s := rfl
def spec_PlainOk_b1 (p0 : ByteArray) (i1 : Nat) (s1 : Unit) : Step (Unit) Bool :=
  (bif (decide ((((p0).data.getD i1 0).toNat : Int) < 32)) then (.done false) else (bif (decide ((((p0).data.getD i1 0).toNat : Int) > 126)) then (.done false) else (bif ((((p0).data.getD i1 0).toNat : Int) == 34) then (.done false) else (.next ()))))
def spec_PlainOk (p0 : ByteArray) : Bool :=
  (Fin.get (fun s1 => (decide ((((p0).size : Nat) : Int) ≤ 20))) (loopC (spec_PlainOk_b1 p0) 0 () (p0).size))
theorem c_spec_PlainOk (p0 : ByteArray) : FnOk prog 46 [.one (.v (.string p0))] ⟨.one (.v (.bool (spec_PlainOk p0))), [], [], false⟩ := by
  refine FnOk.intro (E := env) envOk wide func46 rfl (by kernel_rfl) rfl rfl ?_
  refine loop_rule (α := CntSt (spec_PlainOk_b1 p0) () (p0).size) [0] (fun x1 => [(3, .one (.v (.int .i64 ((x1.i : Nat) : Int))))]) (fun x1 => []) (fun x1 => (p0).size - x1.i) .init [] ?_ (fun x1 => ?_)
  · exact ⟨rfl, ⟨rfl, rfl, trivial⟩, trivial, trivial⟩
  · refine fun hN => ?_
    have hN1 : (_ : Nat) ≤ 9223372036854775807 := hN rfl
    refine And.intro (fun (h2 : (decide (((x1.i : Nat) : Int) < (((p0).size : Nat) : Int))) = true) => ?_) (fun (h2 : (decide (((x1.i : Nat) : Int) < (((p0).size : Nat) : Int))) = false) => ?_)
    · have hi1 : x1.i < (p0).size := by (first | omega | (simp; done) | (simp; omega) | (simp at *; omega) | (simp at *; done) | (simp_all; done) | (simp_all; omega))
      have hw1 : IntKind.i64.wrap (((x1.i : Nat) : Int) + 1) = ((x1.i + 1 : Nat) : Int) := by (rw [Go.Ev.wrap_small] <;> omega)
      refine And.intro (fun _ => by (first | omega | (simp; done) | (simp; omega) | (simp at *; omega) | (simp at *; done) | (simp_all; done) | (simp_all; omega))) ?_
      refine And.intro (fun (h3 : (decide ((((p0).data.getD x1.i 0).toNat : Int) < 32)) = false) => ?_) (fun (h3 : (decide ((((p0).data.getD x1.i 0).toNat : Int) < 32)) = true) => ?_)
      · refine And.intro (fun _ => by (first | omega | (simp; done) | (simp; omega) | (simp at *; omega) | (simp at *; done) | (simp_all; done) | (simp_all; omega))) ?_
        refine And.intro (fun (h4 : (decide ((((p0).data.getD x1.i 0).toNat : Int) > 126)) = false) => ?_) (fun (h4 : (decide ((((p0).data.getD x1.i 0).toNat : Int) > 126)) = true) => ?_)
        · refine And.intro (fun _ => by (first | omega | (simp; done) | (simp; omega) | (simp at *; omega) | (simp at *; done) | (simp_all; done) | (simp_all; omega))) ?_
          refine And.intro (fun (h5 : ((((p0).data.getD x1.i 0).toNat : Int) == 34) = true) => ?_) (fun (h5 : ((((p0).data.getD x1.i 0).toNat : Int) == 34) = false) => ?_)
          · have hb1 := x1.out hi1 (by first | rfl | simp only [spec_PlainOk_b1, h2, h3, h4, h5, cond_true, cond_false, Bool.not_true, Bool.not_false, Option.getD_some, Step.isNext_stop, Step.isNext_done, Step.fin_stop, Step.fin_done, Fin.get_fin, Fin.get_done])
            refine And.intro (fun _ => .v _) ?_
            have hg : spec_PlainOk p0 = false := by
              first | rfl | (simp only [spec_PlainOk, spec_PlainOk_b1, h2, h3, h4, h5, hb1, cond_true, cond_false, Step.fin_stop, Step.fin_done, Fin.get_fin, Fin.get_done, Step.fin_next, Bool.not_true, Bool.not_false, Option.getD_some]) | (simp [spec_PlainOk, spec_PlainOk_b1, h2, h3, h4, h5, hb1, cond_true, cond_false, Step.fin_stop, Step.fin_done, Fin.get_fin, Fin.get_done, Step.fin_next, Bool.not_true, Bool.not_false, Option.getD_some])
            exact congrArg (fun g : Bool => AV.one (.v (.bool g))) hg.symm
          · refine x1.go hi1 (v := ()) (by first | rfl | simp only [spec_PlainOk_b1, h2, h3, h4, h5, cond_true, cond_false, Bool.not_true, Bool.not_false, Option.getD_some, Step.fin_stop, Step.fin_done, Fin.get_fin, Fin.get_done]) [] (by show _ - (x1.i + 1) < _ - x1.i; omega) ?_
            exact ⟨rfl, ⟨(eqInt hw1), rfl, trivial⟩, trivial, trivial⟩
        · have hb1 := x1.out hi1 (by first | rfl | simp only [spec_PlainOk_b1, h2, h3, h4, cond_true, cond_false, Bool.not_true, Bool.not_false, Option.getD_some, Step.isNext_stop, Step.isNext_done, Step.fin_stop, Step.fin_done, Fin.get_fin, Fin.get_done])
          refine And.intro (fun _ => .v _) ?_
          have hg : spec_PlainOk p0 = false := by
            first | rfl | (simp only [spec_PlainOk, spec_PlainOk_b1, h2, h3, h4, hb1, cond_true, cond_false, Step.fin_stop, Step.fin_done, Fin.get_fin, Fin.get_done, Step.fin_next, Bool.not_true, Bool.not_false, Option.getD_some]) | (simp [spec_PlainOk, spec_PlainOk_b1, h2, h3, h4, hb1, cond_true, cond_false, Step.fin_stop, Step.fin_done, Fin.get_fin, Fin.get_done, Step.fin_next, Bool.not_true, Bool.not_false, Option.getD_some])
          exact congrArg (fun g : Bool => AV.one (.v (.bool g))) hg.symm
      · have hb1 := x1.out hi1 (by first | rfl | simp only [spec_PlainOk_b1, h2, h3, cond_true, cond_false, Bool.not_true, Bool.not_false, Option.getD_some, Step.isNext_stop, Step.isNext_done, Step.fin_stop, Step.fin_done, Fin.get_fin, Fin.get_done])
        refine And.intro (fun _ => .v _) ?_
        have hg : spec_PlainOk p0 = false := by
          first | rfl | (simp only [spec_PlainOk, spec_PlainOk_b1, h2, h3, hb1, cond_true, cond_false, Step.fin_stop, Step.fin_done, Fin.get_fin, Fin.get_done, Step.fin_next, Bool.not_true, Bool.not_false, Option.getD_some]) | (simp [spec_PlainOk, spec_PlainOk_b1, h2, h3, hb1, cond_true, cond_false, Step.fin_stop, Step.fin_done, Fin.get_fin, Fin.get_done, Step.fin_next, Bool.not_true, Bool.not_false, Option.getD_some])
        exact congrArg (fun g : Bool => AV.one (.v (.bool g))) hg.symm
    · have hf1 := x1.fin (show ¬ x1.i < (p0).size by (first | omega | (simp; done) | (simp; omega) | (simp at *; omega) | (simp at *; done) | (simp_all; done) | (simp_all; omega)))
      refine fun hN => ?_
      have hN6 : (_ : Nat) ≤ 9223372036854775807 := hN rfl
      refine And.intro (fun _ => .v _) ?_
      have hg : spec_PlainOk p0 = (decide ((((p0).size : Nat) : Int) ≤ 20)) := by
        first | rfl | (simp only [spec_PlainOk, spec_PlainOk_b1, h2, hf1, cond_true, cond_false, Step.fin_stop, Step.fin_done, Fin.get_fin, Fin.get_done, Step.fin_next, Bool.not_true, Bool.not_false, Option.getD_some]) | (simp [spec_PlainOk, spec_PlainOk_b1, h2, hf1, cond_true, cond_false, Step.fin_stop, Step.fin_done, Fin.get_fin, Fin.get_done, Step.fin_next, Bool.not_true, Bool.not_false, Option.getD_some])
      exact congrArg (fun g : Bool => AV.one (.v (.bool g))) hg.symm
theorem main_PlainOk (s : ByteArray) : spec_PlainOk s = impl_PlainOk s := by
  have e : spec_PlainOk_b1 s = impl_PlainOk_b1 s := by
    funext i u
    unfold spec_PlainOk_b1 impl_PlainOk_b1 impl_within
    have h := (s.data.getD i 0).toNat_lt
    generalize (s.data.getD i 0).toNat = n at h ⊢
    rw [Go.Ev.wrap_small (n := (n : Int)) (by omega) (by omega)]
    by_cases h1 : (n : Int) < 32
    · have h2 : ¬ (n : Int) ≥ 32 := by omega
      simp [h1, h2]
    · have h2 : (n : Int) ≥ 32 := by omega
      by_cases h3 : (n : Int) > 126
      · have h4 : ¬ (n : Int) ≤ 126 := by omega
        simp [h1, h2, h3, h4]
      · have h4 : (n : Int) ≤ 126 := by omega
        simp [h1, h2, h3, h4]
  unfold spec_PlainOk impl_PlainOk
  rw [e]
def spec_AttrOk (p0 : Attr) : Bool :=
  (bif (!(spec_NameOk p0.Key)) then false else (bif p0.Num then (bif (spec_l1In p0.N 0 2147483647) then (decide (p0.Text = (ByteArray.mk #[]))) else false) else (bif (p0.N == 0) then (spec_PlainOk p0.Text) else false)))
theorem c_spec_AttrOk (p0 : Attr) : FnOk prog 37 [.agg (Attr.cells p0)] ⟨.one (.v (.bool (spec_AttrOk p0))), [], [], false⟩ := by
  refine FnOk.intro (E := env) envOk wide func37 rfl (by kernel_rfl) rfl rfl ?_
  refine litE (m := 0) rfl ?_
  refine ⟨_, _, c_spec_NameOk p0.Key, (FzAs.same _), ?_⟩
  refine litE (m := 2) rfl ?_
  refine And.intro (fun (h1 : (!(spec_NameOk p0.Key)) = true) => ?_) (fun (h1 : (!(spec_NameOk p0.Key)) = false) => ?_)
  · refine And.intro (fun _ => .v _) ?_
    have hg : spec_AttrOk p0 = false := by
      first | rfl | (simp only [spec_AttrOk, h1, cond_true, cond_false, Step.fin_stop, Step.fin_done, Fin.get_fin, Fin.get_done, Step.fin_next, Bool.not_true, Bool.not_false, Option.getD_some]) | (simp [spec_AttrOk, h1, cond_true, cond_false, Step.fin_stop, Step.fin_done, Fin.get_fin, Fin.get_done, Step.fin_next, Bool.not_true, Bool.not_false, Option.getD_some])
    exact congrArg (fun g : Bool => AV.one (.v (.bool g))) hg.symm
  · refine And.intro (fun (h2 : p0.Num = true) => ?_) (fun (h2 : p0.Num = false) => ?_)
    · refine ⟨_, _, c_spec_l1In p0.N 0 2147483647, (FzAs.same _), ?_⟩
      refine litE (m := 3) rfl ?_
      refine And.intro (fun (h3 : (spec_l1In p0.N 0 2147483647) = true) => ?_) (fun (h3 : (spec_l1In p0.N 0 2147483647) = false) => ?_)
      · refine And.intro (fun _ => .v _) ?_
        have hg : spec_AttrOk p0 = (decide (p0.Text = (ByteArray.mk #[]))) := by
          first | rfl | (simp only [spec_AttrOk, h1, h2, h3, cond_true, cond_false, Step.fin_stop, Step.fin_done, Fin.get_fin, Fin.get_done, Step.fin_next, Bool.not_true, Bool.not_false, Option.getD_some]) | (simp [spec_AttrOk, h1, h2, h3, cond_true, cond_false, Step.fin_stop, Step.fin_done, Fin.get_fin, Fin.get_done, Step.fin_next, Bool.not_true, Bool.not_false, Option.getD_some])
        exact congrArg (fun g : Bool => AV.one (.v (.bool g))) hg.symm
      · refine And.intro (fun _ => .v _) ?_
        have hg : spec_AttrOk p0 = false := by
          first | rfl | (simp only [spec_AttrOk, h1, h2, h3, cond_true, cond_false, Step.fin_stop, Step.fin_done, Fin.get_fin, Fin.get_done, Step.fin_next, Bool.not_true, Bool.not_false, Option.getD_some]) | (simp [spec_AttrOk, h1, h2, h3, cond_true, cond_false, Step.fin_stop, Step.fin_done, Fin.get_fin, Fin.get_done, Step.fin_next, Bool.not_true, Bool.not_false, Option.getD_some])
        exact congrArg (fun g : Bool => AV.one (.v (.bool g))) hg.symm
    · refine And.intro (fun (h4 : (p0.N == 0) = true) => ?_) (fun (h4 : (p0.N == 0) = false) => ?_)
      · refine ⟨_, _, c_spec_PlainOk p0.Text, (FzAs.same _), ?_⟩
        refine litE (m := 3) rfl ?_
        refine And.intro (fun _ => .v _) ?_
        have hg : spec_AttrOk p0 = (spec_PlainOk p0.Text) := by
          first | rfl | (simp only [spec_AttrOk, h1, h2, h4, cond_true, cond_false, Step.fin_stop, Step.fin_done, Fin.get_fin, Fin.get_done, Step.fin_next, Bool.not_true, Bool.not_false, Option.getD_some]) | (simp [spec_AttrOk, h1, h2, h4, cond_true, cond_false, Step.fin_stop, Step.fin_done, Fin.get_fin, Fin.get_done, Step.fin_next, Bool.not_true, Bool.not_false, Option.getD_some])
        exact congrArg (fun g : Bool => AV.one (.v (.bool g))) hg.symm
      · refine And.intro (fun _ => .v _) ?_
        have hg : spec_AttrOk p0 = false := by
          first | rfl | (simp only [spec_AttrOk, h1, h2, h4, cond_true, cond_false, Step.fin_stop, Step.fin_done, Fin.get_fin, Fin.get_done, Step.fin_next, Bool.not_true, Bool.not_false, Option.getD_some]) | (simp [spec_AttrOk, h1, h2, h4, cond_true, cond_false, Step.fin_stop, Step.fin_done, Fin.get_fin, Fin.get_done, Step.fin_next, Bool.not_true, Bool.not_false, Option.getD_some])
        exact congrArg (fun g : Bool => AV.one (.v (.bool g))) hg.symm
theorem main_AttrOk (a : Attr) : spec_AttrOk a = impl_AttrOk a := by
  unfold spec_AttrOk impl_AttrOk
  rw [main_NameOk, main_PlainOk, show spec_l1In a.N 0 2147483647 = impl_within a.N 0 2147483647 from rfl]
  cases impl_NameOk a.Key <;> cases a.Num <;> cases (a.N == 0) <;> cases impl_PlainOk a.Text <;> rfl
def spec_AttrsOk_b1 (p0 : (List Attr)) (i1 : Nat) (s1 : Unit) : Step (Unit) Bool :=
  (bif (!(spec_AttrOk (p0[i1]?.getD default))) then (.done false) else (bif (decide (((i1 : Nat) : Int) > 0)) then (bif (!Op.bytesLess ((p0[((IntKind.i64.wrap (((i1 : Nat) : Int) - 1))).toNat]?.getD default).Key).toList ((p0[i1]?.getD default).Key).toList) then (.done false) else (.next ())) else (.next ())))
def spec_AttrsOk (p0 : (List Attr)) : Bool :=
  (Fin.get (fun s1 => (decide ((((p0).length : Nat) : Int) ≤ 4))) (loopC (spec_AttrsOk_b1 p0) 0 () (p0).length))
theorem c_spec_AttrsOk (p0 : (List Attr)) : FnOk prog 35 [.one (.s false 4 (List.map Attr.cells p0))] ⟨.one (.v (.bool (spec_AttrsOk p0))), [], [], false⟩ := by
  refine FnOk.intro (E := env) envOk wide func35 rfl (by kernel_rfl) rfl rfl ?_
  refine loop_rule (α := CntSt (spec_AttrsOk_b1 p0) () (p0).length) [0] (fun x1 => [(3, .one (.v (.int .i64 ((x1.i : Nat) : Int))))]) (fun x1 => []) (fun x1 => (p0).length - x1.i) .init [] ?_ (fun x1 => ?_)
  · exact ⟨rfl, ⟨rfl, rfl, trivial⟩, trivial, trivial⟩
  · refine lenE (k := (p0).length) (by simp) (fun hN1 => ?_)
    refine And.intro (fun (h2 : (decide (((x1.i : Nat) : Int) < (((p0).length : Nat) : Int))) = true) => ?_) (fun (h2 : (decide (((x1.i : Nat) : Int) < (((p0).length : Nat) : Int))) = false) => ?_)
    · have hi1 : x1.i < (p0).length := by (first | omega | (simp; done) | (simp; omega) | (simp at *; omega) | (simp at *; done) | (simp_all; done) | (simp_all; omega))
      have hw1 : IntKind.i64.wrap (((x1.i : Nat) : Int) + 1) = ((x1.i + 1 : Nat) : Int) := by (rw [Go.Ev.wrap_small] <;> omega)
      refine .inl ⟨by kernel_rfl, ?_⟩
      refine And.intro (fun _ => by first | exact idx_at hi1 | exact idx_of (by first | omega | (first | omega | (simp; done) | (simp; omega) | (simp at *; omega) | (simp at *; done) | (simp_all; done) | (simp_all; omega))) (by assumption) | (have h9 : ((x1.i : Nat) : Int) > 0 := (by simpa using ‹decide (((x1.i : Nat) : Int) > 0) = true›); have hj : x1.i < p0.length := hi1; have e9 : IntKind.i64.wrap (((x1.i : Nat) : Int) - 1) = ((x1.i : Nat) : Int) - 1 := (by rw [Go.Ev.wrap_small (n := ((x1.i : Nat) : Int) - 1)] <;> omega); rw [e9, List.length_map]; omega)) (rowOfE (i := x1.i) (l := p0) rfl (fun e3 he3 => ?_))
      refine ⟨_, _, c_spec_AttrOk e3, (FzAs.same _), ?_⟩
      refine And.intro (fun (h4 : (!(spec_AttrOk e3)) = false) => ?_) (fun (h4 : (!(spec_AttrOk e3)) = true) => ?_)
      · refine And.intro (fun (h5 : (decide (((x1.i : Nat) : Int) > 0)) = true) => ?_) (fun (h5 : (decide (((x1.i : Nat) : Int) > 0)) = false) => ?_)
        · refine And.intro (fun _ => by first | exact idx_at hi1 | exact idx_of (by first | omega | (first | omega | (simp; done) | (simp; omega) | (simp at *; omega) | (simp at *; done) | (simp_all; done) | (simp_all; omega))) (by assumption) | (have h9 : ((x1.i : Nat) : Int) > 0 := (by simpa using ‹decide (((x1.i : Nat) : Int) > 0) = true›); have hj : x1.i < p0.length := hi1; have e9 : IntKind.i64.wrap (((x1.i : Nat) : Int) - 1) = ((x1.i : Nat) : Int) - 1 := (by rw [Go.Ev.wrap_small (n := ((x1.i : Nat) : Int) - 1)] <;> omega); rw [e9, List.length_map]; omega)) (rowOfE (i := ((IntKind.i64.wrap (((x1.i : Nat) : Int) - 1))).toNat) (l := p0) rfl (fun e6 he6 => ?_))
          refine And.intro (fun _ => by first | exact idx_at hi1 | exact idx_of (by first | omega | (first | omega | (simp; done) | (simp; omega) | (simp at *; omega) | (simp at *; done) | (simp_all; done) | (simp_all; omega))) (by assumption) | (have h9 : ((x1.i : Nat) : Int) > 0 := (by simpa using ‹decide (((x1.i : Nat) : Int) > 0) = true›); have hj : x1.i < p0.length := hi1; have e9 : IntKind.i64.wrap (((x1.i : Nat) : Int) - 1) = ((x1.i : Nat) : Int) - 1 := (by rw [Go.Ev.wrap_small (n := ((x1.i : Nat) : Int) - 1)] <;> omega); rw [e9, List.length_map]; omega)) (rowSameE (i := x1.i) (l := p0) rfl he3 ?_)
          refine And.intro (fun (h7 : (!Op.bytesLess (e6.Key).toList (e3.Key).toList) = true) => ?_) (fun (h7 : (!Op.bytesLess (e6.Key).toList (e3.Key).toList) = false) => ?_)
          · have hb1 := x1.out hi1 (by first | rfl | simp only [spec_AttrsOk_b1, h2, he3, h4, h5, he6, h7, cond_true, cond_false, Bool.not_true, Bool.not_false, Option.getD_some, Step.isNext_stop, Step.isNext_done, Step.fin_stop, Step.fin_done, Fin.get_fin, Fin.get_done])
            refine And.intro (fun _ => .v _) ?_
            have hg : spec_AttrsOk p0 = false := by
              first | rfl | (simp only [spec_AttrsOk, spec_AttrsOk_b1, h2, he3, h4, h5, he6, h7, hb1, cond_true, cond_false, Step.fin_stop, Step.fin_done, Fin.get_fin, Fin.get_done, Step.fin_next, Bool.not_true, Bool.not_false, Option.getD_some]) | (simp [spec_AttrsOk, spec_AttrsOk_b1, h2, he3, h4, h5, he6, h7, hb1, cond_true, cond_false, Step.fin_stop, Step.fin_done, Fin.get_fin, Fin.get_done, Step.fin_next, Bool.not_true, Bool.not_false, Option.getD_some])
            exact congrArg (fun g : Bool => AV.one (.v (.bool g))) hg.symm
          · refine x1.go hi1 (v := ()) (by first | rfl | simp only [spec_AttrsOk_b1, h2, he3, h4, h5, he6, h7, cond_true, cond_false, Bool.not_true, Bool.not_false, Option.getD_some, Step.fin_stop, Step.fin_done, Fin.get_fin, Fin.get_done]) [] (by show _ - (x1.i + 1) < _ - x1.i; omega) ?_
            exact ⟨rfl, ⟨(eqInt hw1), rfl, trivial⟩, trivial, trivial⟩
        · refine x1.go hi1 (v := ()) (by first | rfl | simp only [spec_AttrsOk_b1, h2, he3, h4, h5, cond_true, cond_false, Bool.not_true, Bool.not_false, Option.getD_some, Step.fin_stop, Step.fin_done, Fin.get_fin, Fin.get_done]) [] (by show _ - (x1.i + 1) < _ - x1.i; omega) ?_
          exact ⟨rfl, ⟨(eqInt hw1), rfl, trivial⟩, trivial, trivial⟩
      · have hb1 := x1.out hi1 (by first | rfl | simp only [spec_AttrsOk_b1, h2, he3, h4, cond_true, cond_false, Bool.not_true, Bool.not_false, Option.getD_some, Step.isNext_stop, Step.isNext_done, Step.fin_stop, Step.fin_done, Fin.get_fin, Fin.get_done])
        refine And.intro (fun _ => .v _) ?_
        have hg : spec_AttrsOk p0 = false := by
          first | rfl | (simp only [spec_AttrsOk, spec_AttrsOk_b1, h2, he3, h4, hb1, cond_true, cond_false, Step.fin_stop, Step.fin_done, Fin.get_fin, Fin.get_done, Step.fin_next, Bool.not_true, Bool.not_false, Option.getD_some]) | (simp [spec_AttrsOk, spec_AttrsOk_b1, h2, he3, h4, hb1, cond_true, cond_false, Step.fin_stop, Step.fin_done, Fin.get_fin, Fin.get_done, Step.fin_next, Bool.not_true, Bool.not_false, Option.getD_some])
        exact congrArg (fun g : Bool => AV.one (.v (.bool g))) hg.symm
    · have hf1 := x1.fin (show ¬ x1.i < (p0).length by (first | omega | (simp; done) | (simp; omega) | (simp at *; omega) | (simp at *; done) | (simp_all; done) | (simp_all; omega)))
      refine lenE (k := (p0).length) (by simp) (fun hN8 => ?_)
      refine And.intro (fun _ => .v _) ?_
      have hg : spec_AttrsOk p0 = (decide ((((p0).length : Nat) : Int) ≤ 4)) := by
        first | rfl | (simp only [spec_AttrsOk, spec_AttrsOk_b1, h2, hf1, cond_true, cond_false, Step.fin_stop, Step.fin_done, Fin.get_fin, Fin.get_done, Step.fin_next, Bool.not_true, Bool.not_false, Option.getD_some]) | (simp [spec_AttrsOk, spec_AttrsOk_b1, h2, hf1, cond_true, cond_false, Step.fin_stop, Step.fin_done, Fin.get_fin, Fin.get_done, Step.fin_next, Bool.not_true, Bool.not_false, Option.getD_some])
      exact congrArg (fun g : Bool => AV.one (.v (.bool g))) hg.symm
theorem main_AttrsOk (l : List Attr) : spec_AttrsOk l = impl_AttrsOk l := by
  unfold spec_AttrsOk impl_AttrsOk
  rw [loopC_list (g := impl_AttrsOk_b1 l)]
  intro i hi s
  unfold spec_AttrsOk_b1 impl_AttrsOk_b1
  rw [List.getElem?_eq_getElem hi, Option.getD_some, main_AttrOk]
def spec_AttrSize (p0 : Attr) : Int :=
  (bif p0.Num then (IntKind.i64.wrap ((((p0.Key).size : Nat) : Int) + 4)) else (IntKind.i64.wrap ((((p0.Key).size : Nat) : Int) + (((p0.Text).size : Nat) : Int))))
theorem c_spec_AttrSize (p0 : Attr) : FnOk prog 44 [.agg (Attr.cells p0)] ⟨.one (.v (.int .i64 (spec_AttrSize p0))), [], [], false⟩ := by
  refine FnOk.intro (E := env) envOk wide func44 rfl (by kernel_rfl) rfl rfl ?_
  refine litE (m := 0) rfl ?_
  refine And.intro (fun (h1 : p0.Num = true) => ?_) (fun (h1 : p0.Num = false) => ?_)
  · refine fun hN => ?_
    have hN2 : (_ : Nat) ≤ 9223372036854775807 := hN rfl
    refine And.intro (fun _ => .v _) ?_
    have hg : spec_AttrSize p0 = (IntKind.i64.wrap ((((p0.Key).size : Nat) : Int) + 4)) := by
      first | rfl | (simp only [spec_AttrSize, h1, cond_true, cond_false, Step.fin_stop, Step.fin_done, Fin.get_fin, Fin.get_done, Step.fin_next, Bool.not_true, Bool.not_false, Option.getD_some]) | (simp [spec_AttrSize, h1, cond_true, cond_false, Step.fin_stop, Step.fin_done, Fin.get_fin, Fin.get_done, Step.fin_next, Bool.not_true, Bool.not_false, Option.getD_some])
    exact congrArg (fun g : Int => AV.one (.v (.int .i64 g))) hg.symm
  · refine fun hN => ?_
    have hN3 : (_ : Nat) ≤ 9223372036854775807 := hN rfl
    refine fun hN => ?_
    have hN4 : (_ : Nat) ≤ 9223372036854775807 := hN rfl
    refine And.intro (fun _ => .v _) ?_
    have hg : spec_AttrSize p0 = (IntKind.i64.wrap ((((p0.Key).size : Nat) : Int) + (((p0.Text).size : Nat) : Int))) := by
      first | rfl | (simp only [spec_AttrSize, h1, cond_true, cond_false, Step.fin_stop, Step.fin_done, Fin.get_fin, Fin.get_done, Step.fin_next, Bool.not_true, Bool.not_false, Option.getD_some]) | (simp [spec_AttrSize, h1, cond_true, cond_false, Step.fin_stop, Step.fin_done, Fin.get_fin, Fin.get_done, Step.fin_next, Bool.not_true, Bool.not_false, Option.getD_some])
    exact congrArg (fun g : Int => AV.one (.v (.int .i64 g))) hg.symm
def spec_SizeOf_b1 (p0 : Span) (i1 : Nat) (s1 : Int) : Step (Int) Int :=
  (.next (IntKind.i64.wrap (s1 + (spec_AttrSize (p0.Attrs[i1]?.getD default)))))
def spec_SizeOf (p0 : Span) : Int :=
  (Fin.get (fun s1 => s1) (loopC (spec_SizeOf_b1 p0) 0 12 (p0.Attrs).length))
theorem c_spec_SizeOf (p0 : Span) : FnOk prog 36 [.agg ((Span.cells false) p0)] ⟨.one (.v (.int .i64 (spec_SizeOf p0))), [], [], false⟩ := by
  refine FnOk.intro (E := env) envOk wide func36 rfl (by kernel_rfl) rfl rfl ?_
  refine litE (m := 0) rfl ?_
  refine loop_rule (α := CntSt (spec_SizeOf_b1 p0) 12 (p0.Attrs).length) [1] (fun x1 => [(3, .one (.v (.int .i64 x1.s))), (4, .one (.v (.int .i64 ((x1.i : Nat) : Int))))]) (fun x1 => [.keep 0]) (fun x1 => (p0.Attrs).length - x1.i) .init [some 0] ?_ (fun x1 => ?_)
  · exact ⟨rfl, ⟨rfl, rfl, ⟨rfl, rfl, rfl, rfl⟩, trivial⟩, ⟨⟨rfl, rfl, ⟨rfl, rfl, rfl, rfl, rfl, rfl, trivial⟩⟩, trivial⟩, trivial⟩
  · refine lenE (k := (p0.Attrs).length) (by simp) (fun hN1 => ?_)
    refine And.intro (fun (h2 : (decide (((x1.i : Nat) : Int) < (((p0.Attrs).length : Nat) : Int))) = true) => ?_) (fun (h2 : (decide (((x1.i : Nat) : Int) < (((p0.Attrs).length : Nat) : Int))) = false) => ?_)
    · have hi1 : x1.i < (p0.Attrs).length := by (first | omega | (simp; done) | (simp; omega) | (simp at *; omega) | (simp at *; done) | (simp_all; done) | (simp_all; omega))
      have hw1 : IntKind.i64.wrap (((x1.i : Nat) : Int) + 1) = ((x1.i + 1 : Nat) : Int) := by (rw [Go.Ev.wrap_small] <;> omega)
      refine And.intro (fun _ => by (first | omega | (simp; done) | (simp; omega) | (simp at *; omega) | (simp at *; done) | (simp_all; done) | (simp_all; omega))) (rowOfE (i := x1.i) (l := p0.Attrs) rfl (fun e3 he3 => ?_))
      refine ⟨_, _, c_spec_AttrSize e3, (FzAs.same _), ?_⟩
      refine litE (m := 2) rfl ?_
      refine x1.go hi1 (v := (IntKind.i64.wrap (x1.s + (spec_AttrSize e3)))) (by first | rfl | simp only [spec_SizeOf_b1, h2, he3, cond_true, cond_false, Bool.not_true, Bool.not_false, Option.getD_some, Step.fin_stop, Step.fin_done, Fin.get_fin, Fin.get_done]) [some 0] (by show _ - (x1.i + 1) < _ - x1.i; omega) ?_
      exact ⟨rfl, ⟨rfl, (eqInt hw1), ⟨rfl, rfl, rfl, rfl⟩, trivial⟩, ⟨⟨rfl, rfl, ⟨rfl, rfl, rfl, rfl, rfl, rfl, trivial⟩⟩, trivial⟩, trivial⟩
    · have hf1 := x1.fin (show ¬ x1.i < (p0.Attrs).length by (first | omega | (simp; done) | (simp; omega) | (simp at *; omega) | (simp at *; done) | (simp_all; done) | (simp_all; omega)))
      refine And.intro (fun _ => .v _) ?_
      have hg : spec_SizeOf p0 = x1.s := by
        first | rfl | (simp only [spec_SizeOf, spec_SizeOf_b1, h2, hf1, cond_true, cond_false, Step.fin_stop, Step.fin_done, Fin.get_fin, Fin.get_done, Step.fin_next, Bool.not_true, Bool.not_false, Option.getD_some]) | (simp [spec_SizeOf, spec_SizeOf_b1, h2, hf1, cond_true, cond_false, Step.fin_stop, Step.fin_done, Fin.get_fin, Fin.get_done, Step.fin_next, Bool.not_true, Bool.not_false, Option.getD_some])
      exact congrArg (fun g : Int => AV.one (.v (.int .i64 g))) hg.symm
theorem main_SizeOf (s : Span) : spec_SizeOf s = impl_SizeOf s := by
  unfold spec_SizeOf impl_SizeOf
  rw [loopC_list (g := impl_SizeOf_b1)]
  intro i hi t
  unfold spec_SizeOf_b1 impl_SizeOf_b1
  rw [List.getElem?_eq_getElem hi, Option.getD_some]
  rfl
def spec_SpanOk (p0 : Span) : Bool :=
  (bif (spec_l1In p0.Trace 1 999) then (bif (spec_l1In p0.Id 1 999) then (bif (spec_l1In p0.Start 0 99999) then (bif (spec_l1In p0.End p0.Start 99999) then (bif (spec_AttrsOk p0.Attrs) then (decide ((spec_SizeOf p0) ≤ 96)) else false) else false) else false) else false) else false)
theorem c_spec_SpanOk (p0 : Span) : FnOk prog 25 [.agg ((Span.cells false) p0)] ⟨.one (.v (.bool (spec_SpanOk p0))), [], [], false⟩ := by
  refine FnOk.intro (E := env) envOk wide func25 rfl (by kernel_rfl) rfl rfl ?_
  refine litE (m := 0) rfl ?_
  refine ⟨_, _, c_spec_l1In p0.Trace 1 999, (FzAs.same _), ?_⟩
  refine litE (m := 2) rfl ?_
  refine And.intro (fun (h1 : (spec_l1In p0.Trace 1 999) = true) => ?_) (fun (h1 : (spec_l1In p0.Trace 1 999) = false) => ?_)
  · refine ⟨_, _, c_spec_l1In p0.Id 1 999, (FzAs.same _), ?_⟩
    refine litE (m := 3) rfl ?_
    refine And.intro (fun (h2 : (spec_l1In p0.Id 1 999) = true) => ?_) (fun (h2 : (spec_l1In p0.Id 1 999) = false) => ?_)
    · refine ⟨_, _, c_spec_l1In p0.Start 0 99999, (FzAs.same _), ?_⟩
      refine litE (m := 4) rfl ?_
      refine And.intro (fun (h3 : (spec_l1In p0.Start 0 99999) = true) => ?_) (fun (h3 : (spec_l1In p0.Start 0 99999) = false) => ?_)
      · refine ⟨_, _, c_spec_l1In p0.End p0.Start 99999, (FzAs.same _), ?_⟩
        refine litE (m := 5) rfl ?_
        refine And.intro (fun (h4 : (spec_l1In p0.End p0.Start 99999) = true) => ?_) (fun (h4 : (spec_l1In p0.End p0.Start 99999) = false) => ?_)
        · refine ⟨_, _, c_spec_AttrsOk p0.Attrs, (FzAs.same _), ?_⟩
          refine litE (m := 6) rfl ?_
          refine And.intro (fun (h5 : (spec_AttrsOk p0.Attrs) = true) => ?_) (fun (h5 : (spec_AttrsOk p0.Attrs) = false) => ?_)
          · refine ⟨_, _, c_spec_SizeOf p0, (FzAs.same _), ?_⟩
            refine litE (m := 7) rfl ?_
            refine And.intro (fun _ => .v _) ?_
            have hg : spec_SpanOk p0 = (decide ((spec_SizeOf p0) ≤ 96)) := by
              first | rfl | (simp only [spec_SpanOk, h1, h2, h3, h4, h5, cond_true, cond_false, Step.fin_stop, Step.fin_done, Fin.get_fin, Fin.get_done, Step.fin_next, Bool.not_true, Bool.not_false, Option.getD_some]) | (simp [spec_SpanOk, h1, h2, h3, h4, h5, cond_true, cond_false, Step.fin_stop, Step.fin_done, Fin.get_fin, Fin.get_done, Step.fin_next, Bool.not_true, Bool.not_false, Option.getD_some])
            exact congrArg (fun g : Bool => AV.one (.v (.bool g))) hg.symm
          · refine And.intro (fun _ => .v _) ?_
            have hg : spec_SpanOk p0 = false := by
              first | rfl | (simp only [spec_SpanOk, h1, h2, h3, h4, h5, cond_true, cond_false, Step.fin_stop, Step.fin_done, Fin.get_fin, Fin.get_done, Step.fin_next, Bool.not_true, Bool.not_false, Option.getD_some]) | (simp [spec_SpanOk, h1, h2, h3, h4, h5, cond_true, cond_false, Step.fin_stop, Step.fin_done, Fin.get_fin, Fin.get_done, Step.fin_next, Bool.not_true, Bool.not_false, Option.getD_some])
            exact congrArg (fun g : Bool => AV.one (.v (.bool g))) hg.symm
        · refine And.intro (fun _ => .v _) ?_
          have hg : spec_SpanOk p0 = false := by
            first | rfl | (simp only [spec_SpanOk, h1, h2, h3, h4, cond_true, cond_false, Step.fin_stop, Step.fin_done, Fin.get_fin, Fin.get_done, Step.fin_next, Bool.not_true, Bool.not_false, Option.getD_some]) | (simp [spec_SpanOk, h1, h2, h3, h4, cond_true, cond_false, Step.fin_stop, Step.fin_done, Fin.get_fin, Fin.get_done, Step.fin_next, Bool.not_true, Bool.not_false, Option.getD_some])
          exact congrArg (fun g : Bool => AV.one (.v (.bool g))) hg.symm
      · refine And.intro (fun _ => .v _) ?_
        have hg : spec_SpanOk p0 = false := by
          first | rfl | (simp only [spec_SpanOk, h1, h2, h3, cond_true, cond_false, Step.fin_stop, Step.fin_done, Fin.get_fin, Fin.get_done, Step.fin_next, Bool.not_true, Bool.not_false, Option.getD_some]) | (simp [spec_SpanOk, h1, h2, h3, cond_true, cond_false, Step.fin_stop, Step.fin_done, Fin.get_fin, Fin.get_done, Step.fin_next, Bool.not_true, Bool.not_false, Option.getD_some])
        exact congrArg (fun g : Bool => AV.one (.v (.bool g))) hg.symm
    · refine And.intro (fun _ => .v _) ?_
      have hg : spec_SpanOk p0 = false := by
        first | rfl | (simp only [spec_SpanOk, h1, h2, cond_true, cond_false, Step.fin_stop, Step.fin_done, Fin.get_fin, Fin.get_done, Step.fin_next, Bool.not_true, Bool.not_false, Option.getD_some]) | (simp [spec_SpanOk, h1, h2, cond_true, cond_false, Step.fin_stop, Step.fin_done, Fin.get_fin, Fin.get_done, Step.fin_next, Bool.not_true, Bool.not_false, Option.getD_some])
      exact congrArg (fun g : Bool => AV.one (.v (.bool g))) hg.symm
  · refine And.intro (fun _ => .v _) ?_
    have hg : spec_SpanOk p0 = false := by
      first | rfl | (simp only [spec_SpanOk, h1, cond_true, cond_false, Step.fin_stop, Step.fin_done, Fin.get_fin, Fin.get_done, Step.fin_next, Bool.not_true, Bool.not_false, Option.getD_some]) | (simp [spec_SpanOk, h1, cond_true, cond_false, Step.fin_stop, Step.fin_done, Fin.get_fin, Fin.get_done, Step.fin_next, Bool.not_true, Bool.not_false, Option.getD_some])
    exact congrArg (fun g : Bool => AV.one (.v (.bool g))) hg.symm
theorem main_SpanOk (s : Span) : spec_SpanOk s = impl_SpanOk s := by
  unfold spec_SpanOk impl_SpanOk
  rw [main_AttrsOk, main_SizeOf, show spec_l1In s.Trace 1 999 = impl_within s.Trace 1 999 from rfl, show spec_l1In s.Id 1 999 = impl_within s.Id 1 999 from rfl]
  have e : (bif spec_l1In s.Start 0 99999 then spec_l1In s.End s.Start 99999 else false) = (bif impl_within s.End 0 99999 then impl_within s.Start 0 s.End else false) := by
    unfold spec_l1In impl_within
    rw [Bool.eq_iff_iff]
    simp only [Bool.cond_eq_ite]
    repeat' split
    all_goals simp_all
    all_goals omega
  cases impl_within s.Trace 1 999 <;> cases impl_within s.Id 1 999 <;> simp only [cond_true, cond_false]
  revert e
  cases spec_l1In s.Start 0 99999 <;> cases spec_l1In s.End s.Start 99999 <;> cases impl_within s.End 0 99999 <;> cases impl_within s.Start 0 s.End <;> simp
def spec_NumText_b1 (s1 : ByteArray × Int) : Step (ByteArray × Int) ByteArray :=
  (bif (s1.2 != 0) then (bif (decide ((Int.tmod s1.2 10) < 0)) then (.next (((strOfNums [(IntKind.u8.wrap (IntKind.i64.wrap (48 + (IntKind.i64.wrap (0 - (Int.tmod s1.2 10))))))]) ++ s1.1), (IntKind.i64.wrap (Int.tdiv s1.2 10)))) else (.next (((strOfNums [(IntKind.u8.wrap (IntKind.i64.wrap (48 + (Int.tmod s1.2 10))))]) ++ s1.1), (IntKind.i64.wrap (Int.tdiv s1.2 10))))) else (.stop (s1.1, s1.2)))
def spec_NumText (p0 : Int) : ByteArray :=
  (bif (p0 == 0) then (ByteArray.mk #[48]) else (Fin.get (fun s1 => (bif (decide (p0 < 0)) then ((ByteArray.mk #[45]) ++ s1.1) else s1.1)) (loopW spec_NumText_b1 (ntM ((ByteArray.mk #[]), p0)) ((ByteArray.mk #[]), p0))))
theorem cr_spec_NumText (p0 : Int) (hr0 : I64 p0) : FnOk prog 16 [.one (.v (.int .i64 p0))] ⟨.one (.v (.string (spec_NumText p0))), [], [], false⟩ := by
  refine FnOk.intro (E := env) envOk wide func16 rfl (by kernel_rfl) rfl rfl ?_
  refine And.intro (fun (h1 : (p0 == 0) = true) => ?_) (fun (h1 : (p0 == 0) = false) => ?_)
  · refine And.intro (fun _ => .v _) ?_
    have hg : spec_NumText p0 = (ByteArray.mk #[48]) := by
      first | rfl | (simp only [spec_NumText, h1, cond_true, cond_false, Step.fin_stop, Step.fin_done, Fin.get_fin, Fin.get_done, Step.fin_next, Bool.not_true, Bool.not_false, Option.getD_some]) | (simp [spec_NumText, h1, cond_true, cond_false, Step.fin_stop, Step.fin_done, Fin.get_fin, Fin.get_done, Step.fin_next, Bool.not_true, Bool.not_false, Option.getD_some])
    exact congrArg (fun g : ByteArray => AV.one (.v (.string g))) hg.symm
  · refine loop_rule (α := WhlSt ntInv ntM spec_NumText_b1 ((ByteArray.mk #[]), p0)) [0] (fun x1 => [(3, .one (.v (.string x1.s.1))), (4, .one (.v (.int .i64 x1.s.2)))]) (fun x1 => []) (fun x1 => ntM x1.s) (WhlSt.init (by left; have := hr0.1; have := hr0.2; exact ⟨rfl, by show Int.natAbs p0 ≤ _; omega⟩)) [] ?_ (fun x1 => ?_)
    · exact ⟨rfl, ⟨rfl, rfl, rfl, trivial⟩, trivial, trivial⟩
    · refine And.intro (fun (h2 : (x1.s.2 != 0) = true) => ?_) (fun (h2 : (x1.s.2 != 0) = false) => ?_)
      · refine And.intro (fun _ => by (first | omega | (simp; done) | (simp; omega) | (simp at *; omega) | (simp at *; done) | (simp_all; done) | (simp_all; omega))) ?_
        refine And.intro (fun (h3 : (decide ((Int.tmod x1.s.2 10) < 0)) = true) => ?_) (fun (h3 : (decide ((Int.tmod x1.s.2 10) < 0)) = false) => ?_)
        · refine litE (m := 0) rfl ?_
          refine And.intro (fun _ => by first | exact nt_cat x1.hI h2 | exact nt_cat2 x1.hI) ?_
          refine And.intro (fun _ => by (first | omega | (simp; done) | (simp; omega) | (simp at *; omega) | (simp at *; done) | (simp_all; done) | (simp_all; omega))) ?_
          have hm1 : ntInv (((strOfNums [(IntKind.u8.wrap (IntKind.i64.wrap (48 + (IntKind.i64.wrap (0 - (Int.tmod x1.s.2 10))))))]) ++ x1.s.1), (IntKind.i64.wrap (Int.tdiv x1.s.2 10))) ∧ ntM (((strOfNums [(IntKind.u8.wrap (IntKind.i64.wrap (48 + (IntKind.i64.wrap (0 - (Int.tmod x1.s.2 10))))))]) ++ x1.s.1), (IntKind.i64.wrap (Int.tdiv x1.s.2 10))) < ntM x1.s := by exact nt_step x1.hI (by simpa using h2)
          refine x1.go (v := (((strOfNums [(IntKind.u8.wrap (IntKind.i64.wrap (48 + (IntKind.i64.wrap (0 - (Int.tmod x1.s.2 10))))))]) ++ x1.s.1), (IntKind.i64.wrap (Int.tdiv x1.s.2 10)))) (by first | rfl | simp only [spec_NumText_b1, h1, h2, h3, cond_true, cond_false, Bool.not_true, Bool.not_false, Option.getD_some, Step.fin_stop, Step.fin_done, Fin.get_fin, Fin.get_done]) [] hm1 hm1.2 ?_
          exact ⟨rfl, ⟨rfl, rfl, rfl, trivial⟩, trivial, trivial⟩
        · refine litE (m := 0) rfl ?_
          refine And.intro (fun _ => by first | exact nt_cat x1.hI h2 | exact nt_cat2 x1.hI) ?_
          refine And.intro (fun _ => by (first | omega | (simp; done) | (simp; omega) | (simp at *; omega) | (simp at *; done) | (simp_all; done) | (simp_all; omega))) ?_
          have hm1 : ntInv (((strOfNums [(IntKind.u8.wrap (IntKind.i64.wrap (48 + (Int.tmod x1.s.2 10))))]) ++ x1.s.1), (IntKind.i64.wrap (Int.tdiv x1.s.2 10))) ∧ ntM (((strOfNums [(IntKind.u8.wrap (IntKind.i64.wrap (48 + (Int.tmod x1.s.2 10))))]) ++ x1.s.1), (IntKind.i64.wrap (Int.tdiv x1.s.2 10))) < ntM x1.s := by exact nt_step x1.hI (by simpa using h2)
          refine x1.go (v := (((strOfNums [(IntKind.u8.wrap (IntKind.i64.wrap (48 + (Int.tmod x1.s.2 10))))]) ++ x1.s.1), (IntKind.i64.wrap (Int.tdiv x1.s.2 10)))) (by first | rfl | simp only [spec_NumText_b1, h1, h2, h3, cond_true, cond_false, Bool.not_true, Bool.not_false, Option.getD_some, Step.fin_stop, Step.fin_done, Fin.get_fin, Fin.get_done]) [] hm1 hm1.2 ?_
          exact ⟨rfl, ⟨rfl, rfl, rfl, trivial⟩, trivial, trivial⟩
      · have hb1 := x1.out (by first | rfl | simp only [spec_NumText_b1, h1, h2, cond_true, cond_false, Bool.not_true, Bool.not_false, Option.getD_some, Step.isNext_stop, Step.isNext_done, Step.fin_stop, Step.fin_done, Fin.get_fin, Fin.get_done])
        refine And.intro (fun (h4 : (decide (p0 < 0)) = true) => ?_) (fun (h4 : (decide (p0 < 0)) = false) => ?_)
        · refine And.intro (fun _ => by first | exact nt_cat x1.hI h2 | exact nt_cat2 x1.hI) ?_
          refine And.intro (fun _ => .v _) ?_
          have hg : spec_NumText p0 = ((ByteArray.mk #[45]) ++ x1.s.1) := by
            first | rfl | (simp only [spec_NumText, spec_NumText_b1, h1, h2, hb1, h4, cond_true, cond_false, Step.fin_stop, Step.fin_done, Fin.get_fin, Fin.get_done, Step.fin_next, Bool.not_true, Bool.not_false, Option.getD_some]) | (simp [spec_NumText, spec_NumText_b1, h1, h2, hb1, h4, cond_true, cond_false, Step.fin_stop, Step.fin_done, Fin.get_fin, Fin.get_done, Step.fin_next, Bool.not_true, Bool.not_false, Option.getD_some])
          exact congrArg (fun g : ByteArray => AV.one (.v (.string g))) hg.symm
        · refine And.intro (fun _ => .v _) ?_
          have hg : spec_NumText p0 = x1.s.1 := by
            first | rfl | (simp only [spec_NumText, spec_NumText_b1, h1, h2, hb1, h4, cond_true, cond_false, Step.fin_stop, Step.fin_done, Fin.get_fin, Fin.get_done, Step.fin_next, Bool.not_true, Bool.not_false, Option.getD_some]) | (simp [spec_NumText, spec_NumText_b1, h1, h2, hb1, h4, cond_true, cond_false, Step.fin_stop, Step.fin_done, Fin.get_fin, Fin.get_done, Step.fin_next, Bool.not_true, Bool.not_false, Option.getD_some])
          exact congrArg (fun g : ByteArray => AV.one (.v (.string g))) hg.symm
theorem c_spec_NumText (p0 : Int) : FnOk prog 16 [.one (.v (.int .i64 p0))] ⟨.one (.v (.string (spec_NumText p0))), [], [], false⟩ :=
  FnOk.fits ⟨_, func16, by kernel_rfl, by kernel_rfl⟩ (fun hf => cr_spec_NumText p0 (range_of_fit hf.1))
theorem nt_b1 {s : ByteArray} {x : Int} (hx : x ≠ 0) (h : x.natAbs ≤ 9223372036854775808) : ∃ y, spec_NumText_b1 (s, x) = .next (ByteArray.mk #[UInt8.ofNat (48 + x.natAbs % 10)] ++ s, y) ∧ y.natAbs = x.natAbs / 10 := by
  refine ⟨_, ?_, nt_abs h⟩
  have h0 : (x != 0) = true := by simpa using hx
  have hm : (x.tmod 10).natAbs = x.natAbs % 10 := by rw [Int.natAbs_tmod]; rfl
  have u8w : ∀ k : Nat, k < 10 → strOfNums [IntKind.u8.wrap (IntKind.i64.wrap (48 + (k : Int)))] = ByteArray.mk #[UInt8.ofNat (48 + k)] := by
    intro k hk
    rw [Go.Ev.wrap_small (n := 48 + (k : Int)) (by omega) (by omega)]
    have : IntKind.u8.wrap (48 + (k : Int)) = ((48 + k : Nat) : Int) := by
      simp [IntKind.wrap, IntKind.bits, IntKind.signed]; omega
    rw [this]; rfl
  unfold spec_NumText_b1
  simp only [h0, cond_true]
  cases hd : decide (x.tmod 10 < 0) with
  | true =>
    rw [decide_eq_true_eq] at hd
    have e : IntKind.i64.wrap (0 - x.tmod 10) = ((x.natAbs % 10 : Nat) : Int) := by rw [Go.Ev.wrap_small (n := 0 - x.tmod 10) (by omega) (by omega)]; omega
    simp only [cond_true]
    rw [e, u8w _ (by omega)]
  | false =>
    rw [decide_eq_false_iff_not] at hd
    have e : x.tmod 10 = ((x.natAbs % 10 : Nat) : Int) := by omega
    simp only [cond_false]
    rw [e, u8w _ (by omega)]
theorem mk_app (a b : List UInt8) : ByteArray.mk (a ++ b).toArray = ByteArray.mk a.toArray ++ ByteArray.mk b.toArray := by
  apply ByteArray.ext
  simp [ByteArray.data_append]
theorem nt_loop : ∀ (u N : Nat) (s : ByteArray) (x : Int), x.natAbs = u → u ≤ N → u ≤ 9223372036854775808 → ∃ y, loopW spec_NumText_b1 N (s, x) = .fin ((if u = 0 then s else ByteArray.mk (Lib.decDigits u).toArray ++ s), y) := by
  intro u
  induction u using Nat.strongRecOn with
  | _ u ih =>
    intro N s x hx hN hu
    by_cases h0 : u = 0
    · have : x = 0 := by omega
      subst this
      refine ⟨0, ?_⟩
      cases N <;> simp [loopW, spec_NumText_b1, Step.fin, h0]
    · obtain ⟨N, rfl⟩ : ∃ n, N = n + 1 := ⟨N - 1, by omega⟩
      obtain ⟨y, e, hy⟩ := nt_b1 (s := s) (x := x) (by omega) (by omega)
      rw [loopW, e]
      simp only
      obtain ⟨z, hz⟩ := ih (u / 10) (by omega) N (ByteArray.mk #[UInt8.ofNat (48 + x.natAbs % 10)] ++ s) y (by omega) (by omega) (by omega)
      refine ⟨z, ?_⟩
      rw [hz, hx, if_neg h0]
      congr 2
      by_cases h1 : u / 10 = 0
      · rw [if_pos h1, Lib.decDigits, dif_pos (by omega), Nat.mod_eq_of_lt (by omega)]
      · rw [if_neg h1, ← ByteArray.append_assoc]
        congr 1
        conv => rhs; rw [Lib.decDigits, dif_neg (by omega : ¬ u < 10)]
        rw [mk_app]
theorem main_NumText {n : Int} (h : I64 n) : spec_NumText n = itoaS n := by
  have h1 := h.1
  have h2 := h.2
  unfold spec_NumText
  by_cases h0 : n = 0
  · subst h0
    simp [itoaS, Lib.itoa, Lib.decDigits]
  · have e0 : (n == 0) = false := by simpa using h0
    simp only [e0, cond_false]
    obtain ⟨y, hy⟩ := nt_loop n.natAbs n.natAbs (ByteArray.mk #[]) n rfl (Nat.le_refl _) (by omega)
    have e1 : ntM (ByteArray.mk #[], n) = n.natAbs := rfl
    rw [e1, hy, if_neg (by omega)]
    have ee : ∀ b : ByteArray, b ++ ByteArray.mk #[] = b := fun b => by apply ByteArray.ext; simp [ByteArray.data_append]
    simp only [Fin.get, ee]
    by_cases hn : n < 0
    · have e2 : decide (n < 0) = true := by simpa using hn
      simp only [e2, cond_true]
      rw [itoaS, Lib.itoa, if_pos hn]
      exact (mk_app [45] _).symm
    · have e2 : decide (n < 0) = false := by simpa using hn
      simp only [e2, cond_false]
      rw [itoaS, Lib.itoa, if_neg hn]
      congr 3
      omega
theorem size_spec_NumText {n : Int} (h : I64 n) : (spec_NumText n).size ≤ 20 := by
  rw [main_NumText h]; exact itoaS_size h.1 h.2
def spec_AttrText (p0 : Attr) : ByteArray :=
  (bif (!(spec_AttrOk p0)) then (ByteArray.mk #[]) else (bif p0.Num then ((p0.Key ++ (ByteArray.mk #[61])) ++ (spec_NumText p0.N)) else (((p0.Key ++ (ByteArray.mk #[61, 34])) ++ p0.Text) ++ (ByteArray.mk #[34]))))
theorem cr_spec_AttrText (p0 : Attr) (hr0 : Attr.rg p0) : FnOk prog 26 [.agg (Attr.cells p0)] ⟨.one (.v (.string (spec_AttrText p0))), [], [], false⟩ := by
  refine FnOk.intro (E := env) envOk wide func26 rfl (by kernel_rfl) rfl rfl ?_
  refine litE (m := 0) rfl ?_
  refine ⟨_, _, c_spec_AttrOk p0, (FzAs.same _), ?_⟩
  refine litE (m := 2) rfl ?_
  refine And.intro (fun (h1 : (!(spec_AttrOk p0)) = true) => ?_) (fun (h1 : (!(spec_AttrOk p0)) = false) => ?_)
  · refine And.intro (fun _ => .v _) ?_
    have hg : spec_AttrText p0 = (ByteArray.mk #[]) := by
      first | rfl | (simp only [spec_AttrText, h1, cond_true, cond_false, Step.fin_stop, Step.fin_done, Fin.get_fin, Fin.get_done, Step.fin_next, Bool.not_true, Bool.not_false, Option.getD_some]) | (simp [spec_AttrText, h1, cond_true, cond_false, Step.fin_stop, Step.fin_done, Fin.get_fin, Fin.get_done, Step.fin_next, Bool.not_true, Bool.not_false, Option.getD_some])
    exact congrArg (fun g : ByteArray => AV.one (.v (.string g))) hg.symm
  · refine And.intro (fun (h2 : p0.Num = true) => ?_) (fun (h2 : p0.Num = false) => ?_)
    · refine .inl ⟨by kernel_rfl, ?_⟩
      refine And.intro (fun _ => by have ho := impl_AttrOk_size (a := p0) (by rw [← main_AttrOk]; simpa using h1); have hz := size_spec_NumText hr0.N; (try have ht := ho.2 h2); (try simp only [ByteArray.size_append]); simp only [bsz, List.size_toArray, List.length_cons, List.length_nil]; omega) ?_
      refine ⟨_, _, c_spec_NumText p0.N, (FzAs.same _), ?_⟩
      refine And.intro (fun _ => by have ho := impl_AttrOk_size (a := p0) (by rw [← main_AttrOk]; simpa using h1); have hz := size_spec_NumText hr0.N; (try have ht := ho.2 h2); (try simp only [ByteArray.size_append]); simp only [bsz, List.size_toArray, List.length_cons, List.length_nil]; omega) ?_
      refine And.intro (fun _ => .v _) ?_
      have hg : spec_AttrText p0 = ((p0.Key ++ (ByteArray.mk #[61])) ++ (spec_NumText p0.N)) := by
        first | rfl | (simp only [spec_AttrText, h1, h2, cond_true, cond_false, Step.fin_stop, Step.fin_done, Fin.get_fin, Fin.get_done, Step.fin_next, Bool.not_true, Bool.not_false, Option.getD_some]) | (simp [spec_AttrText, h1, h2, cond_true, cond_false, Step.fin_stop, Step.fin_done, Fin.get_fin, Fin.get_done, Step.fin_next, Bool.not_true, Bool.not_false, Option.getD_some])
      exact congrArg (fun g : ByteArray => AV.one (.v (.string g))) hg.symm
    · refine And.intro (fun _ => by have ho := impl_AttrOk_size (a := p0) (by rw [← main_AttrOk]; simpa using h1); have hz := size_spec_NumText hr0.N; (try have ht := ho.2 h2); (try simp only [ByteArray.size_append]); simp only [bsz, List.size_toArray, List.length_cons, List.length_nil]; omega) ?_
      refine And.intro (fun _ => by have ho := impl_AttrOk_size (a := p0) (by rw [← main_AttrOk]; simpa using h1); have hz := size_spec_NumText hr0.N; (try have ht := ho.2 h2); (try simp only [ByteArray.size_append]); simp only [bsz, List.size_toArray, List.length_cons, List.length_nil]; omega) ?_
      refine And.intro (fun _ => by have ho := impl_AttrOk_size (a := p0) (by rw [← main_AttrOk]; simpa using h1); have hz := size_spec_NumText hr0.N; (try have ht := ho.2 h2); (try simp only [ByteArray.size_append]); simp only [bsz, List.size_toArray, List.length_cons, List.length_nil]; omega) ?_
      refine And.intro (fun _ => .v _) ?_
      have hg : spec_AttrText p0 = (((p0.Key ++ (ByteArray.mk #[61, 34])) ++ p0.Text) ++ (ByteArray.mk #[34])) := by
        first | rfl | (simp only [spec_AttrText, h1, h2, cond_true, cond_false, Step.fin_stop, Step.fin_done, Fin.get_fin, Fin.get_done, Step.fin_next, Bool.not_true, Bool.not_false, Option.getD_some]) | (simp [spec_AttrText, h1, h2, cond_true, cond_false, Step.fin_stop, Step.fin_done, Fin.get_fin, Fin.get_done, Step.fin_next, Bool.not_true, Bool.not_false, Option.getD_some])
      exact congrArg (fun g : ByteArray => AV.one (.v (.string g))) hg.symm
theorem c_spec_AttrText (p0 : Attr) : FnOk prog 26 [.agg (Attr.cells p0)] ⟨.one (.v (.string (spec_AttrText p0))), [], [], false⟩ :=
  FnOk.fits ⟨_, func26, by kernel_rfl, by kernel_rfl⟩ (fun hf => cr_spec_AttrText p0 (rg_Attr hf.1))
theorem main_AttrText {a : Attr} (h : I64 a.N) : spec_AttrText a = impl_AttrText a := by
  unfold spec_AttrText impl_AttrText
  rw [main_AttrOk, main_NumText h]
  rfl
def spec_SpanText_b1 (p0 : Span) (i1 : Nat) (s1 : ByteArray) : Step (ByteArray) ByteArray :=
  (.next ((s1 ++ (ByteArray.mk #[32])) ++ (spec_AttrText (p0.Attrs[i1]?.getD default))))
def spec_SpanText_b2 (i2 : Nat) (s2 : ByteArray) (a2 : Attr) : Step (ByteArray) ByteArray :=
  (.next ((s2 ++ (ByteArray.mk #[32])) ++ (spec_AttrText a2)))
def spec_SpanText (p0 : Span) : ByteArray :=
  (bif (!(spec_SpanOk p0)) then (ByteArray.mk #[]) else (bif p0.Err then (Fin.get (fun s1 => s1) (loopC (spec_SpanText_b1 p0) 0 ((((((((spec_NumText p0.Trace) ++ (ByteArray.mk #[47])) ++ (spec_NumText p0.Id)) ++ (ByteArray.mk #[32])) ++ (spec_NumText p0.Start)) ++ (ByteArray.mk #[45])) ++ (spec_NumText p0.End)) ++ (ByteArray.mk #[32, 102, 97, 105, 108, 101, 100])) (p0.Attrs).length)) else (Fin.get (fun s2 => s2) (loopL spec_SpanText_b2 0 (((((((spec_NumText p0.Trace) ++ (ByteArray.mk #[47])) ++ (spec_NumText p0.Id)) ++ (ByteArray.mk #[32])) ++ (spec_NumText p0.Start)) ++ (ByteArray.mk #[45])) ++ (spec_NumText p0.End)) p0.Attrs))))
theorem cr_spec_SpanText (p0 : Span) (hr0 : Span.rg p0) : FnOk prog 17 [.agg ((Span.cells false) p0)] ⟨.one (.v (.string (spec_SpanText p0))), [], [], false⟩ := by
  refine FnOk.intro (E := env) envOk wide func17 rfl (by kernel_rfl) rfl rfl ?_
  refine litE (m := 0) rfl ?_
  refine ⟨_, _, c_spec_SpanOk p0, (FzAs.same _), ?_⟩
  refine litE (m := 2) rfl ?_
  refine And.intro (fun (h1 : (!(spec_SpanOk p0)) = true) => ?_) (fun (h1 : (!(spec_SpanOk p0)) = false) => ?_)
  · refine And.intro (fun _ => .v _) ?_
    have hg : spec_SpanText p0 = (ByteArray.mk #[]) := by
      first | rfl | (simp only [spec_SpanText, h1, cond_true, cond_false, Step.fin_stop, Step.fin_done, Fin.get_fin, Fin.get_done, Step.fin_next, Bool.not_true, Bool.not_false, Option.getD_some]) | (simp [spec_SpanText, h1, cond_true, cond_false, Step.fin_stop, Step.fin_done, Fin.get_fin, Fin.get_done, Step.fin_next, Bool.not_true, Bool.not_false, Option.getD_some])
    exact congrArg (fun g : ByteArray => AV.one (.v (.string g))) hg.symm
  · refine .inl ⟨by kernel_rfl, ?_⟩
    refine ⟨_, _, c_spec_NumText p0.Trace, (FzAs.same _), ?_⟩
    refine And.intro (fun _ => by have z1 := size_spec_NumText hr0.Trace; have z2 := size_spec_NumText hr0.Id; have z3 := size_spec_NumText hr0.Start; have z4 := size_spec_NumText hr0.End; have hl := impl_SpanOk_len (s := p0) (by simpa [main_SpanOk] using h1); (try have y1 := impl_AttrText_size (hr0.Attrs.2 _ (List.getElem_mem hi1)).N); (try rw [← main_AttrText (hr0.Attrs.2 _ (List.getElem_mem hi1)).N] at y1); (try have y1 := impl_AttrText_size (hr0.Attrs.2 _ (List.mem_of_getElem? ‹p0.Attrs[x1.i]? = some _›)).N); (try rw [← main_AttrText (hr0.Attrs.2 _ (List.mem_of_getElem? ‹p0.Attrs[x1.i]? = some _›)).N] at y1); (try have y2 := impl_AttrText_size (hr0.Attrs.2 _ (List.getElem_mem hi2)).N); (try rw [← main_AttrText (hr0.Attrs.2 _ (List.getElem_mem hi2)).N] at y2); (try have y2 := impl_AttrText_size (hr0.Attrs.2 _ (List.mem_of_getElem? ‹p0.Attrs[x2.i]? = some _›)).N); (try rw [← main_AttrText (hr0.Attrs.2 _ (List.mem_of_getElem? ‹p0.Attrs[x2.i]? = some _›)).N] at y2); (try simp only [ByteArray.size_append]); simp only [bsz, List.size_toArray, List.length_cons, List.length_nil]; omega) ?_
    refine ⟨_, _, c_spec_NumText p0.Id, (FzAs.same _), ?_⟩
    refine And.intro (fun _ => by have z1 := size_spec_NumText hr0.Trace; have z2 := size_spec_NumText hr0.Id; have z3 := size_spec_NumText hr0.Start; have z4 := size_spec_NumText hr0.End; have hl := impl_SpanOk_len (s := p0) (by simpa [main_SpanOk] using h1); (try have y1 := impl_AttrText_size (hr0.Attrs.2 _ (List.getElem_mem hi1)).N); (try rw [← main_AttrText (hr0.Attrs.2 _ (List.getElem_mem hi1)).N] at y1); (try have y1 := impl_AttrText_size (hr0.Attrs.2 _ (List.mem_of_getElem? ‹p0.Attrs[x1.i]? = some _›)).N); (try rw [← main_AttrText (hr0.Attrs.2 _ (List.mem_of_getElem? ‹p0.Attrs[x1.i]? = some _›)).N] at y1); (try have y2 := impl_AttrText_size (hr0.Attrs.2 _ (List.getElem_mem hi2)).N); (try rw [← main_AttrText (hr0.Attrs.2 _ (List.getElem_mem hi2)).N] at y2); (try have y2 := impl_AttrText_size (hr0.Attrs.2 _ (List.mem_of_getElem? ‹p0.Attrs[x2.i]? = some _›)).N); (try rw [← main_AttrText (hr0.Attrs.2 _ (List.mem_of_getElem? ‹p0.Attrs[x2.i]? = some _›)).N] at y2); (try simp only [ByteArray.size_append]); simp only [bsz, List.size_toArray, List.length_cons, List.length_nil]; omega) ?_
    refine And.intro (fun _ => by have z1 := size_spec_NumText hr0.Trace; have z2 := size_spec_NumText hr0.Id; have z3 := size_spec_NumText hr0.Start; have z4 := size_spec_NumText hr0.End; have hl := impl_SpanOk_len (s := p0) (by simpa [main_SpanOk] using h1); (try have y1 := impl_AttrText_size (hr0.Attrs.2 _ (List.getElem_mem hi1)).N); (try rw [← main_AttrText (hr0.Attrs.2 _ (List.getElem_mem hi1)).N] at y1); (try have y1 := impl_AttrText_size (hr0.Attrs.2 _ (List.mem_of_getElem? ‹p0.Attrs[x1.i]? = some _›)).N); (try rw [← main_AttrText (hr0.Attrs.2 _ (List.mem_of_getElem? ‹p0.Attrs[x1.i]? = some _›)).N] at y1); (try have y2 := impl_AttrText_size (hr0.Attrs.2 _ (List.getElem_mem hi2)).N); (try rw [← main_AttrText (hr0.Attrs.2 _ (List.getElem_mem hi2)).N] at y2); (try have y2 := impl_AttrText_size (hr0.Attrs.2 _ (List.mem_of_getElem? ‹p0.Attrs[x2.i]? = some _›)).N); (try rw [← main_AttrText (hr0.Attrs.2 _ (List.mem_of_getElem? ‹p0.Attrs[x2.i]? = some _›)).N] at y2); (try simp only [ByteArray.size_append]); simp only [bsz, List.size_toArray, List.length_cons, List.length_nil]; omega) ?_
    refine ⟨_, _, c_spec_NumText p0.Start, (FzAs.same _), ?_⟩
    refine And.intro (fun _ => by have z1 := size_spec_NumText hr0.Trace; have z2 := size_spec_NumText hr0.Id; have z3 := size_spec_NumText hr0.Start; have z4 := size_spec_NumText hr0.End; have hl := impl_SpanOk_len (s := p0) (by simpa [main_SpanOk] using h1); (try have y1 := impl_AttrText_size (hr0.Attrs.2 _ (List.getElem_mem hi1)).N); (try rw [← main_AttrText (hr0.Attrs.2 _ (List.getElem_mem hi1)).N] at y1); (try have y1 := impl_AttrText_size (hr0.Attrs.2 _ (List.mem_of_getElem? ‹p0.Attrs[x1.i]? = some _›)).N); (try rw [← main_AttrText (hr0.Attrs.2 _ (List.mem_of_getElem? ‹p0.Attrs[x1.i]? = some _›)).N] at y1); (try have y2 := impl_AttrText_size (hr0.Attrs.2 _ (List.getElem_mem hi2)).N); (try rw [← main_AttrText (hr0.Attrs.2 _ (List.getElem_mem hi2)).N] at y2); (try have y2 := impl_AttrText_size (hr0.Attrs.2 _ (List.mem_of_getElem? ‹p0.Attrs[x2.i]? = some _›)).N); (try rw [← main_AttrText (hr0.Attrs.2 _ (List.mem_of_getElem? ‹p0.Attrs[x2.i]? = some _›)).N] at y2); (try simp only [ByteArray.size_append]); simp only [bsz, List.size_toArray, List.length_cons, List.length_nil]; omega) ?_
    refine And.intro (fun _ => by have z1 := size_spec_NumText hr0.Trace; have z2 := size_spec_NumText hr0.Id; have z3 := size_spec_NumText hr0.Start; have z4 := size_spec_NumText hr0.End; have hl := impl_SpanOk_len (s := p0) (by simpa [main_SpanOk] using h1); (try have y1 := impl_AttrText_size (hr0.Attrs.2 _ (List.getElem_mem hi1)).N); (try rw [← main_AttrText (hr0.Attrs.2 _ (List.getElem_mem hi1)).N] at y1); (try have y1 := impl_AttrText_size (hr0.Attrs.2 _ (List.mem_of_getElem? ‹p0.Attrs[x1.i]? = some _›)).N); (try rw [← main_AttrText (hr0.Attrs.2 _ (List.mem_of_getElem? ‹p0.Attrs[x1.i]? = some _›)).N] at y1); (try have y2 := impl_AttrText_size (hr0.Attrs.2 _ (List.getElem_mem hi2)).N); (try rw [← main_AttrText (hr0.Attrs.2 _ (List.getElem_mem hi2)).N] at y2); (try have y2 := impl_AttrText_size (hr0.Attrs.2 _ (List.mem_of_getElem? ‹p0.Attrs[x2.i]? = some _›)).N); (try rw [← main_AttrText (hr0.Attrs.2 _ (List.mem_of_getElem? ‹p0.Attrs[x2.i]? = some _›)).N] at y2); (try simp only [ByteArray.size_append]); simp only [bsz, List.size_toArray, List.length_cons, List.length_nil]; omega) ?_
    refine ⟨_, _, c_spec_NumText p0.End, (FzAs.same _), ?_⟩
    refine And.intro (fun _ => by have z1 := size_spec_NumText hr0.Trace; have z2 := size_spec_NumText hr0.Id; have z3 := size_spec_NumText hr0.Start; have z4 := size_spec_NumText hr0.End; have hl := impl_SpanOk_len (s := p0) (by simpa [main_SpanOk] using h1); (try have y1 := impl_AttrText_size (hr0.Attrs.2 _ (List.getElem_mem hi1)).N); (try rw [← main_AttrText (hr0.Attrs.2 _ (List.getElem_mem hi1)).N] at y1); (try have y1 := impl_AttrText_size (hr0.Attrs.2 _ (List.mem_of_getElem? ‹p0.Attrs[x1.i]? = some _›)).N); (try rw [← main_AttrText (hr0.Attrs.2 _ (List.mem_of_getElem? ‹p0.Attrs[x1.i]? = some _›)).N] at y1); (try have y2 := impl_AttrText_size (hr0.Attrs.2 _ (List.getElem_mem hi2)).N); (try rw [← main_AttrText (hr0.Attrs.2 _ (List.getElem_mem hi2)).N] at y2); (try have y2 := impl_AttrText_size (hr0.Attrs.2 _ (List.mem_of_getElem? ‹p0.Attrs[x2.i]? = some _›)).N); (try rw [← main_AttrText (hr0.Attrs.2 _ (List.mem_of_getElem? ‹p0.Attrs[x2.i]? = some _›)).N] at y2); (try simp only [ByteArray.size_append]); simp only [bsz, List.size_toArray, List.length_cons, List.length_nil]; omega) ?_
    refine And.intro (fun (h2 : p0.Err = true) => ?_) (fun (h2 : p0.Err = false) => ?_)
    · refine And.intro (fun _ => by have z1 := size_spec_NumText hr0.Trace; have z2 := size_spec_NumText hr0.Id; have z3 := size_spec_NumText hr0.Start; have z4 := size_spec_NumText hr0.End; have hl := impl_SpanOk_len (s := p0) (by simpa [main_SpanOk] using h1); (try have y1 := impl_AttrText_size (hr0.Attrs.2 _ (List.getElem_mem hi1)).N); (try rw [← main_AttrText (hr0.Attrs.2 _ (List.getElem_mem hi1)).N] at y1); (try have y1 := impl_AttrText_size (hr0.Attrs.2 _ (List.mem_of_getElem? ‹p0.Attrs[x1.i]? = some _›)).N); (try rw [← main_AttrText (hr0.Attrs.2 _ (List.mem_of_getElem? ‹p0.Attrs[x1.i]? = some _›)).N] at y1); (try have y2 := impl_AttrText_size (hr0.Attrs.2 _ (List.getElem_mem hi2)).N); (try rw [← main_AttrText (hr0.Attrs.2 _ (List.getElem_mem hi2)).N] at y2); (try have y2 := impl_AttrText_size (hr0.Attrs.2 _ (List.mem_of_getElem? ‹p0.Attrs[x2.i]? = some _›)).N); (try rw [← main_AttrText (hr0.Attrs.2 _ (List.mem_of_getElem? ‹p0.Attrs[x2.i]? = some _›)).N] at y2); (try simp only [ByteArray.size_append]); simp only [bsz, List.size_toArray, List.length_cons, List.length_nil]; omega) ?_
      refine loop_rule (α := CntInv (fun i s => ByteArray.size s ≤ 200 + 50 * i) (spec_SpanText_b1 p0) ((((((((spec_NumText p0.Trace) ++ (ByteArray.mk #[47])) ++ (spec_NumText p0.Id)) ++ (ByteArray.mk #[32])) ++ (spec_NumText p0.Start)) ++ (ByteArray.mk #[45])) ++ (spec_NumText p0.End)) ++ (ByteArray.mk #[32, 102, 97, 105, 108, 101, 100])) (p0.Attrs).length) [1] (fun x1 => [(3, .one (.v (.string x1.s))), (4, .one (.v (.int .i64 ((x1.i : Nat) : Int))))]) (fun x1 => [.keep 0, .dead]) (fun x1 => (p0.Attrs).length - x1.i) (.init (by have z1 := size_spec_NumText hr0.Trace; have z2 := size_spec_NumText hr0.Id; have z3 := size_spec_NumText hr0.Start; have z4 := size_spec_NumText hr0.End; show ByteArray.size _ ≤ 200 + 50 * 0; (try simp only [ByteArray.size_append]); simp only [bsz, List.size_toArray, List.length_cons, List.length_nil]; omega)) [some 0, none] ?_ (fun x1 => ?_)
      · exact ⟨rfl, ⟨rfl, rfl, ⟨rfl, rfl, rfl, rfl⟩, trivial⟩, ⟨⟨rfl, rfl, ⟨rfl, rfl, rfl, rfl, rfl, rfl, trivial⟩⟩, trivial⟩, trivial⟩
      · have hI1 : ByteArray.size x1.s ≤ 200 + 50 * x1.i := by simpa using x1.hI
        refine lenE (k := (p0.Attrs).length) (by simp) (fun hN3 => ?_)
        refine And.intro (fun (h4 : (decide (((x1.i : Nat) : Int) < (((p0.Attrs).length : Nat) : Int))) = true) => ?_) (fun (h4 : (decide (((x1.i : Nat) : Int) < (((p0.Attrs).length : Nat) : Int))) = false) => ?_)
        · have hi1 : x1.i < (p0.Attrs).length := by (first | omega | (simp; done) | (simp; omega) | (simp at *; omega) | (simp at *; done) | (simp_all; done) | (simp_all; omega))
          have hw1 : IntKind.i64.wrap (((x1.i : Nat) : Int) + 1) = ((x1.i + 1 : Nat) : Int) := by (rw [Go.Ev.wrap_small] <;> omega)
          refine And.intro (fun _ => by have z1 := size_spec_NumText hr0.Trace; have z2 := size_spec_NumText hr0.Id; have z3 := size_spec_NumText hr0.Start; have z4 := size_spec_NumText hr0.End; have hl := impl_SpanOk_len (s := p0) (by simpa [main_SpanOk] using h1); (try have y1 := impl_AttrText_size (hr0.Attrs.2 _ (List.getElem_mem hi1)).N); (try rw [← main_AttrText (hr0.Attrs.2 _ (List.getElem_mem hi1)).N] at y1); (try have y1 := impl_AttrText_size (hr0.Attrs.2 _ (List.mem_of_getElem? ‹p0.Attrs[x1.i]? = some _›)).N); (try rw [← main_AttrText (hr0.Attrs.2 _ (List.mem_of_getElem? ‹p0.Attrs[x1.i]? = some _›)).N] at y1); (try have y2 := impl_AttrText_size (hr0.Attrs.2 _ (List.getElem_mem hi2)).N); (try rw [← main_AttrText (hr0.Attrs.2 _ (List.getElem_mem hi2)).N] at y2); (try have y2 := impl_AttrText_size (hr0.Attrs.2 _ (List.mem_of_getElem? ‹p0.Attrs[x2.i]? = some _›)).N); (try rw [← main_AttrText (hr0.Attrs.2 _ (List.mem_of_getElem? ‹p0.Attrs[x2.i]? = some _›)).N] at y2); (try simp only [ByteArray.size_append]); simp only [bsz, List.size_toArray, List.length_cons, List.length_nil]; omega) ?_
          refine And.intro (fun _ => by (first | omega | (simp; done) | (simp; omega) | (simp at *; omega) | (simp at *; done) | (simp_all; done) | (simp_all; omega))) (rowOfE (i := x1.i) (l := p0.Attrs) rfl (fun e5 he5 => ?_))
          refine ⟨_, _, c_spec_AttrText e5, (FzAs.same _), ?_⟩
          refine litE (m := 3) rfl ?_
          refine And.intro (fun _ => by have z1 := size_spec_NumText hr0.Trace; have z2 := size_spec_NumText hr0.Id; have z3 := size_spec_NumText hr0.Start; have z4 := size_spec_NumText hr0.End; have hl := impl_SpanOk_len (s := p0) (by simpa [main_SpanOk] using h1); (try have y1 := impl_AttrText_size (hr0.Attrs.2 _ (List.getElem_mem hi1)).N); (try rw [← main_AttrText (hr0.Attrs.2 _ (List.getElem_mem hi1)).N] at y1); (try have y1 := impl_AttrText_size (hr0.Attrs.2 _ (List.mem_of_getElem? ‹p0.Attrs[x1.i]? = some _›)).N); (try rw [← main_AttrText (hr0.Attrs.2 _ (List.mem_of_getElem? ‹p0.Attrs[x1.i]? = some _›)).N] at y1); (try have y2 := impl_AttrText_size (hr0.Attrs.2 _ (List.getElem_mem hi2)).N); (try rw [← main_AttrText (hr0.Attrs.2 _ (List.getElem_mem hi2)).N] at y2); (try have y2 := impl_AttrText_size (hr0.Attrs.2 _ (List.mem_of_getElem? ‹p0.Attrs[x2.i]? = some _›)).N); (try rw [← main_AttrText (hr0.Attrs.2 _ (List.mem_of_getElem? ‹p0.Attrs[x2.i]? = some _›)).N] at y2); (try simp only [ByteArray.size_append]); simp only [bsz, List.size_toArray, List.length_cons, List.length_nil]; omega) ?_
          refine x1.go' hi1 (v := ((x1.s ++ (ByteArray.mk #[32])) ++ (spec_AttrText e5))) (by first | rfl | simp only [spec_SpanText_b1, h1, h2, h4, he5, cond_true, cond_false, Bool.not_true, Bool.not_false, Option.getD_some, Step.fin_stop, Step.fin_done, Fin.get_fin, Fin.get_done]) (by have z1 := size_spec_NumText hr0.Trace; have z2 := size_spec_NumText hr0.Id; have z3 := size_spec_NumText hr0.Start; have z4 := size_spec_NumText hr0.End; (try have y1 := impl_AttrText_size (hr0.Attrs.2 _ (List.getElem_mem hi1)).N); (try rw [← main_AttrText (hr0.Attrs.2 _ (List.getElem_mem hi1)).N] at y1); (try have y1 := impl_AttrText_size (hr0.Attrs.2 _ (List.mem_of_getElem? ‹p0.Attrs[x1.i]? = some _›)).N); (try rw [← main_AttrText (hr0.Attrs.2 _ (List.mem_of_getElem? ‹p0.Attrs[x1.i]? = some _›)).N] at y1); show ByteArray.size _ ≤ 200 + 50 * (x1.i + 1); (try simp only [ByteArray.size_append]); simp only [bsz, List.size_toArray, List.length_cons, List.length_nil]; omega) [some 0, none] (by show _ - (x1.i + 1) < _ - x1.i; omega) ?_
          exact ⟨rfl, ⟨rfl, (eqInt hw1), ⟨rfl, rfl, rfl, rfl⟩, trivial⟩, ⟨⟨rfl, rfl, ⟨rfl, rfl, rfl, rfl, rfl, rfl, trivial⟩⟩, trivial⟩, trivial⟩
        · have hf1 := x1.fin (show ¬ x1.i < (p0.Attrs).length by (first | omega | (simp; done) | (simp; omega) | (simp at *; omega) | (simp at *; done) | (simp_all; done) | (simp_all; omega)))
          refine And.intro (fun _ => .v _) ?_
          have hg : spec_SpanText p0 = x1.s := by
            first | rfl | (simp only [spec_SpanText, spec_SpanText_b1, h1, h2, h4, hf1, cond_true, cond_false, Step.fin_stop, Step.fin_done, Fin.get_fin, Fin.get_done, Step.fin_next, Bool.not_true, Bool.not_false, Option.getD_some]) | (simp [spec_SpanText, spec_SpanText_b1, h1, h2, h4, hf1, cond_true, cond_false, Step.fin_stop, Step.fin_done, Fin.get_fin, Fin.get_done, Step.fin_next, Bool.not_true, Bool.not_false, Option.getD_some])
          exact congrArg (fun g : ByteArray => AV.one (.v (.string g))) hg.symm
    · refine loop_rule (α := LstInv (fun i s => ByteArray.size s ≤ 200 + 50 * i) spec_SpanText_b2 (((((((spec_NumText p0.Trace) ++ (ByteArray.mk #[47])) ++ (spec_NumText p0.Id)) ++ (ByteArray.mk #[32])) ++ (spec_NumText p0.Start)) ++ (ByteArray.mk #[45])) ++ (spec_NumText p0.End)) p0.Attrs) [1] (fun x2 => [(3, .one (.v (.string x2.s))), (4, .one (.v (.int .i64 ((x2.i : Nat) : Int))))]) (fun x2 => [.keep 0, .dead]) (fun x2 => (p0.Attrs).length - x2.i) (.init (by have z1 := size_spec_NumText hr0.Trace; have z2 := size_spec_NumText hr0.Id; have z3 := size_spec_NumText hr0.Start; have z4 := size_spec_NumText hr0.End; show ByteArray.size _ ≤ 200 + 50 * 0; (try simp only [ByteArray.size_append]); simp only [bsz, List.size_toArray, List.length_cons, List.length_nil]; omega)) [some 0, none] ?_ (fun x2 => ?_)
      · exact ⟨rfl, ⟨rfl, rfl, ⟨rfl, rfl, rfl, rfl⟩, trivial⟩, ⟨⟨rfl, rfl, ⟨rfl, rfl, rfl, rfl, rfl, rfl, trivial⟩⟩, trivial⟩, trivial⟩
      · have hI2 : ByteArray.size x2.s ≤ 200 + 50 * x2.i := by simpa using x2.hI
        refine lenE (k := (p0.Attrs).length) (by simp) (fun hN6 => ?_)
        refine And.intro (fun (h7 : (decide (((x2.i : Nat) : Int) < (((p0.Attrs).length : Nat) : Int))) = true) => ?_) (fun (h7 : (decide (((x2.i : Nat) : Int) < (((p0.Attrs).length : Nat) : Int))) = false) => ?_)
        · have hi2 : x2.i < (p0.Attrs).length := by simpa using h7
          have hw2 : IntKind.i64.wrap ((x2.i : Int) + 1) = ((x2.i + 1 : Nat) : Int) := wrap_succ hi2 (by first | assumption | omega)
          refine And.intro (fun _ => by have z1 := size_spec_NumText hr0.Trace; have z2 := size_spec_NumText hr0.Id; have z3 := size_spec_NumText hr0.Start; have z4 := size_spec_NumText hr0.End; have hl := impl_SpanOk_len (s := p0) (by simpa [main_SpanOk] using h1); (try have y1 := impl_AttrText_size (hr0.Attrs.2 _ (List.getElem_mem hi1)).N); (try rw [← main_AttrText (hr0.Attrs.2 _ (List.getElem_mem hi1)).N] at y1); (try have y1 := impl_AttrText_size (hr0.Attrs.2 _ (List.mem_of_getElem? ‹p0.Attrs[x1.i]? = some _›)).N); (try rw [← main_AttrText (hr0.Attrs.2 _ (List.mem_of_getElem? ‹p0.Attrs[x1.i]? = some _›)).N] at y1); (try have y2 := impl_AttrText_size (hr0.Attrs.2 _ (List.getElem_mem hi2)).N); (try rw [← main_AttrText (hr0.Attrs.2 _ (List.getElem_mem hi2)).N] at y2); (try have y2 := impl_AttrText_size (hr0.Attrs.2 _ (List.mem_of_getElem? ‹p0.Attrs[x2.i]? = some _›)).N); (try rw [← main_AttrText (hr0.Attrs.2 _ (List.mem_of_getElem? ‹p0.Attrs[x2.i]? = some _›)).N] at y2); (try simp only [ByteArray.size_append]); simp only [bsz, List.size_toArray, List.length_cons, List.length_nil]; omega) ?_
          refine And.intro (fun _ => by exact idx_at hi2) (rowAtE (i := x2.i) (l := p0.Attrs) rfl hi2 ?_)
          refine ⟨_, _, c_spec_AttrText (p0.Attrs[x2.i]'hi2), (FzAs.same _), ?_⟩
          refine litE (m := 3) rfl ?_
          refine And.intro (fun _ => by have z1 := size_spec_NumText hr0.Trace; have z2 := size_spec_NumText hr0.Id; have z3 := size_spec_NumText hr0.Start; have z4 := size_spec_NumText hr0.End; have hl := impl_SpanOk_len (s := p0) (by simpa [main_SpanOk] using h1); (try have y1 := impl_AttrText_size (hr0.Attrs.2 _ (List.getElem_mem hi1)).N); (try rw [← main_AttrText (hr0.Attrs.2 _ (List.getElem_mem hi1)).N] at y1); (try have y1 := impl_AttrText_size (hr0.Attrs.2 _ (List.mem_of_getElem? ‹p0.Attrs[x1.i]? = some _›)).N); (try rw [← main_AttrText (hr0.Attrs.2 _ (List.mem_of_getElem? ‹p0.Attrs[x1.i]? = some _›)).N] at y1); (try have y2 := impl_AttrText_size (hr0.Attrs.2 _ (List.getElem_mem hi2)).N); (try rw [← main_AttrText (hr0.Attrs.2 _ (List.getElem_mem hi2)).N] at y2); (try have y2 := impl_AttrText_size (hr0.Attrs.2 _ (List.mem_of_getElem? ‹p0.Attrs[x2.i]? = some _›)).N); (try rw [← main_AttrText (hr0.Attrs.2 _ (List.mem_of_getElem? ‹p0.Attrs[x2.i]? = some _›)).N] at y2); (try simp only [ByteArray.size_append]); simp only [bsz, List.size_toArray, List.length_cons, List.length_nil]; omega) ?_
          refine x2.go' hi2 (v := ((x2.s ++ (ByteArray.mk #[32])) ++ (spec_AttrText (p0.Attrs[x2.i]'hi2)))) (by first | rfl | simp only [spec_SpanText_b1, spec_SpanText_b2, h1, h2, h7, cond_true, cond_false, Bool.not_true, Bool.not_false, Option.getD_some, Step.fin_stop, Step.fin_done, Fin.get_fin, Fin.get_done]) (by have z1 := size_spec_NumText hr0.Trace; have z2 := size_spec_NumText hr0.Id; have z3 := size_spec_NumText hr0.Start; have z4 := size_spec_NumText hr0.End; (try have y2 := impl_AttrText_size (hr0.Attrs.2 _ (List.getElem_mem hi2)).N); (try rw [← main_AttrText (hr0.Attrs.2 _ (List.getElem_mem hi2)).N] at y2); (try have y2 := impl_AttrText_size (hr0.Attrs.2 _ (List.mem_of_getElem? ‹p0.Attrs[x2.i]? = some _›)).N); (try rw [← main_AttrText (hr0.Attrs.2 _ (List.mem_of_getElem? ‹p0.Attrs[x2.i]? = some _›)).N] at y2); show ByteArray.size _ ≤ 200 + 50 * (x2.i + 1); (try simp only [ByteArray.size_append]); simp only [bsz, List.size_toArray, List.length_cons, List.length_nil]; omega) [some 0, none] (by show _ - (x2.i + 1) < _ - x2.i; omega) ?_
          exact ⟨rfl, ⟨rfl, (eqInt hw2), ⟨rfl, rfl, rfl, rfl⟩, trivial⟩, ⟨⟨rfl, rfl, ⟨rfl, rfl, rfl, rfl, rfl, rfl, trivial⟩⟩, trivial⟩, trivial⟩
        · have hf2 := x2.fin (show ¬ x2.i < (p0.Attrs).length by simpa using h7)
          refine And.intro (fun _ => .v _) ?_
          have hg : spec_SpanText p0 = x2.s := by
            first | rfl | (simp only [spec_SpanText, spec_SpanText_b1, spec_SpanText_b2, h1, h2, h7, hf2, cond_true, cond_false, Step.fin_stop, Step.fin_done, Fin.get_fin, Fin.get_done, Step.fin_next, Bool.not_true, Bool.not_false, Option.getD_some]) | (simp [spec_SpanText, spec_SpanText_b1, spec_SpanText_b2, h1, h2, h7, hf2, cond_true, cond_false, Step.fin_stop, Step.fin_done, Fin.get_fin, Fin.get_done, Step.fin_next, Bool.not_true, Bool.not_false, Option.getD_some])
          exact congrArg (fun g : ByteArray => AV.one (.v (.string g))) hg.symm
theorem c_spec_SpanText (p0 : Span) : FnOk prog 17 [.agg ((Span.cells false) p0)] ⟨.one (.v (.string (spec_SpanText p0))), [], [], false⟩ :=
  FnOk.fits ⟨_, func17, by kernel_rfl, by kernel_rfl⟩ (fun hf => cr_spec_SpanText p0 (rg_Span hf.1))
theorem main_SpanText {s : Span} (h : Span.rg s) : spec_SpanText s = impl_SpanText s := by
  unfold spec_SpanText impl_SpanText
  rw [main_SpanOk, main_NumText h.Trace, main_NumText h.Id, main_NumText h.Start, main_NumText h.End]
  have e1 : ∀ t, loopC (spec_SpanText_b1 s) 0 t s.Attrs.length = loopL impl_SpanText_b1 0 t s.Attrs := fun t => by
    refine loopC_list fun i hi u => ?_
    unfold spec_SpanText_b1 impl_SpanText_b1
    rw [List.getElem?_eq_getElem hi, Option.getD_some, main_AttrText (h.Attrs.2 _ (List.getElem_mem hi)).N, ByteArray.append_assoc]
  have e2 : ∀ t, loopL spec_SpanText_b2 0 t s.Attrs = loopL impl_SpanText_b2 0 t s.Attrs := fun t => by
    refine loopL_congr s.Attrs 0 t fun i u a ha => ?_
    unfold spec_SpanText_b2 impl_SpanText_b2
    rw [main_AttrText (h.Attrs.2 _ ha).N, ByteArray.append_assoc]
  rw [e1, e2]
  rfl
def spec_CodeName (p0 : Int) : ByteArray :=
  (bif (!(spec_l1In p0 1 5)) then (ByteArray.mk #[]) else ([(ByteArray.mk #[104, 101, 108, 100]), (ByteArray.mk #[108, 97, 116, 101]), (ByteArray.mk #[103, 111, 110, 101]), (ByteArray.mk #[115, 104, 117, 116]), (ByteArray.mk #[98, 97, 100])][((IntKind.i64.wrap (p0 - 1))).toNat]?.getD default))
theorem c_spec_CodeName (p0 : Int) : FnOk prog 22 [.one (.v (.int .i64 p0))] ⟨.one (.v (.string (spec_CodeName p0))), [], [], false⟩ := by
  refine FnOk.intro (E := env) envOk wide func22 rfl (by kernel_rfl) rfl rfl ?_
  refine litE (m := 0) rfl ?_
  refine ⟨_, _, c_spec_l1In p0 1 5, (FzAs.same _), ?_⟩
  refine litE (m := 2) rfl ?_
  refine And.intro (fun (h1 : (!(spec_l1In p0 1 5)) = true) => ?_) (fun (h1 : (!(spec_l1In p0 1 5)) = false) => ?_)
  · refine And.intro (fun _ => .v _) ?_
    have hg : spec_CodeName p0 = (ByteArray.mk #[]) := by
      first | rfl | (simp only [spec_CodeName, h1, cond_true, cond_false, Step.fin_stop, Step.fin_done, Fin.get_fin, Fin.get_done, Step.fin_next, Bool.not_true, Bool.not_false, Option.getD_some]) | (simp [spec_CodeName, h1, cond_true, cond_false, Step.fin_stop, Step.fin_done, Fin.get_fin, Fin.get_done, Step.fin_next, Bool.not_true, Bool.not_false, Option.getD_some])
    exact congrArg (fun g : ByteArray => AV.one (.v (.string g))) hg.symm
  · refine And.intro (fun _ => by have h9 : spec_l1In p0 1 5 = true := (by simpa using h1); have ha : 1 ≤ p0 ∧ p0 ≤ 5 := (by simp [spec_l1In, Bool.cond_eq_ite] at h9; omega); rw [Go.Ev.wrap_small (n := p0 - 1) (by omega) (by omega)]; (constructor <;> (try simp) <;> omega)) ?_
    refine rowOfE (enc := cStr) (i := ((IntKind.i64.wrap (p0 - 1))).toNat) (l := [(ByteArray.mk #[104, 101, 108, 100]), (ByteArray.mk #[108, 97, 116, 101]), (ByteArray.mk #[103, 111, 110, 101]), (ByteArray.mk #[115, 104, 117, 116]), (ByteArray.mk #[98, 97, 100])]) (by first | rfl | simp) (fun e2 he2 => ?_)
    refine And.intro (fun _ => .v _) ?_
    have hg : spec_CodeName p0 = e2 := by
      first | rfl | (simp only [spec_CodeName, h1, he2, cond_true, cond_false, Step.fin_stop, Step.fin_done, Fin.get_fin, Fin.get_done, Step.fin_next, Bool.not_true, Bool.not_false, Option.getD_some]) | (simp [spec_CodeName, h1, he2, cond_true, cond_false, Step.fin_stop, Step.fin_done, Fin.get_fin, Fin.get_done, Step.fin_next, Bool.not_true, Bool.not_false, Option.getD_some])
    exact congrArg (fun g : ByteArray => AV.one (.v (.string g))) hg.symm
theorem main_CodeName (n : Int) : spec_CodeName n = impl_CodeName n := rfl
def spec_DeedText (p0 : Deed) : ByteArray :=
  (bif (p0.Op == 1) then (bif (p0.Lin == (-1)) then (((ByteArray.mk #[111, 102, 102, 101, 114, 32]) ++ (spec_SpanText p0.S)) ++ (ByteArray.mk #[32, 111, 112, 101, 110])) else ((((ByteArray.mk #[111, 102, 102, 101, 114, 32]) ++ (spec_SpanText p0.S)) ++ (ByteArray.mk #[32])) ++ (spec_CodeName p0.Code))) else (bif (p0.Op == 2) then (bif (p0.Lin == (-1)) then (((ByteArray.mk #[106, 117, 100, 103, 101, 32]) ++ (spec_NumText p0.Trace)) ++ (ByteArray.mk #[32, 111, 112, 101, 110])) else (bif p0.Void then (((ByteArray.mk #[106, 117, 100, 103, 101, 32]) ++ (spec_NumText p0.Trace)) ++ (ByteArray.mk #[32, 118, 111, 105, 100])) else (bif p0.Keep then ((((ByteArray.mk #[106, 117, 100, 103, 101, 32]) ++ (spec_NumText p0.Trace)) ++ (ByteArray.mk #[32, 107, 101, 112, 116, 32])) ++ (spec_NumText p0.N)) else ((((ByteArray.mk #[106, 117, 100, 103, 101, 32]) ++ (spec_NumText p0.Trace)) ++ (ByteArray.mk #[32, 100, 114, 111, 112, 112, 101, 100, 32])) ++ (spec_NumText p0.N))))) else (bif (p0.Op == 3) then ((((ByteArray.mk #[100, 114, 111, 112, 32]) ++ (spec_NumText p0.Trace)) ++ (ByteArray.mk #[32])) ++ (spec_NumText p0.N)) else (bif (p0.Op == 4) then (ByteArray.mk #[115, 104, 117, 116]) else (ByteArray.mk #[])))))
theorem cr_spec_DeedText (p0 : Deed) (hr0 : Deed.rg p0) : FnOk prog 11 [.agg ((Deed.cells false) p0)] ⟨.one (.v (.string (spec_DeedText p0))), [], [], false⟩ := by
  refine FnOk.intro (E := env) envOk wide func11 rfl (by kernel_rfl) rfl rfl ?_
  refine litE (m := 0) rfl ?_
  refine And.intro (fun (h1 : (p0.Op == 1) = true) => ?_) (fun (h1 : (p0.Op == 1) = false) => ?_)
  · refine And.intro (fun (h2 : (p0.Lin == (-1)) = true) => ?_) (fun (h2 : (p0.Lin == (-1)) = false) => ?_)
    · refine ⟨_, _, c_spec_SpanText p0.S, (FzAs.same _), ?_⟩
      refine litE (m := 2) rfl ?_
      refine And.intro (fun _ => by have z1 := size_spec_NumText hr0.Trace; have z2 := size_spec_NumText hr0.N; have z3 := impl_SpanText_size hr0.S; rw [← main_SpanText hr0.S] at z3; have z4 := impl_CodeName_size p0.Code; rw [← main_CodeName] at z4; (try simp only [ByteArray.size_append]); simp only [bsz, List.size_toArray, List.length_cons, List.length_nil]; omega) ?_
      refine And.intro (fun _ => by have z1 := size_spec_NumText hr0.Trace; have z2 := size_spec_NumText hr0.N; have z3 := impl_SpanText_size hr0.S; rw [← main_SpanText hr0.S] at z3; have z4 := impl_CodeName_size p0.Code; rw [← main_CodeName] at z4; (try simp only [ByteArray.size_append]); simp only [bsz, List.size_toArray, List.length_cons, List.length_nil]; omega) ?_
      refine And.intro (fun _ => .v _) ?_
      have hg : spec_DeedText p0 = (((ByteArray.mk #[111, 102, 102, 101, 114, 32]) ++ (spec_SpanText p0.S)) ++ (ByteArray.mk #[32, 111, 112, 101, 110])) := by
        first | rfl | (simp only [spec_DeedText, h1, h2, cond_true, cond_false, Step.fin_stop, Step.fin_done, Fin.get_fin, Fin.get_done, Step.fin_next, Bool.not_true, Bool.not_false, Option.getD_some]) | (simp [spec_DeedText, h1, h2, cond_true, cond_false, Step.fin_stop, Step.fin_done, Fin.get_fin, Fin.get_done, Step.fin_next, Bool.not_true, Bool.not_false, Option.getD_some])
      exact congrArg (fun g : ByteArray => AV.one (.v (.string g))) hg.symm
    · refine .inl ⟨by kernel_rfl, ?_⟩
      refine ⟨_, _, c_spec_SpanText p0.S, (FzAs.same _), ?_⟩
      refine And.intro (fun _ => by have z1 := size_spec_NumText hr0.Trace; have z2 := size_spec_NumText hr0.N; have z3 := impl_SpanText_size hr0.S; rw [← main_SpanText hr0.S] at z3; have z4 := impl_CodeName_size p0.Code; rw [← main_CodeName] at z4; (try simp only [ByteArray.size_append]); simp only [bsz, List.size_toArray, List.length_cons, List.length_nil]; omega) ?_
      refine And.intro (fun _ => by have z1 := size_spec_NumText hr0.Trace; have z2 := size_spec_NumText hr0.N; have z3 := impl_SpanText_size hr0.S; rw [← main_SpanText hr0.S] at z3; have z4 := impl_CodeName_size p0.Code; rw [← main_CodeName] at z4; (try simp only [ByteArray.size_append]); simp only [bsz, List.size_toArray, List.length_cons, List.length_nil]; omega) ?_
      refine ⟨_, _, c_spec_CodeName p0.Code, (FzAs.same _), ?_⟩
      refine And.intro (fun _ => by have z1 := size_spec_NumText hr0.Trace; have z2 := size_spec_NumText hr0.N; have z3 := impl_SpanText_size hr0.S; rw [← main_SpanText hr0.S] at z3; have z4 := impl_CodeName_size p0.Code; rw [← main_CodeName] at z4; (try simp only [ByteArray.size_append]); simp only [bsz, List.size_toArray, List.length_cons, List.length_nil]; omega) ?_
      refine And.intro (fun _ => .v _) ?_
      have hg : spec_DeedText p0 = ((((ByteArray.mk #[111, 102, 102, 101, 114, 32]) ++ (spec_SpanText p0.S)) ++ (ByteArray.mk #[32])) ++ (spec_CodeName p0.Code)) := by
        first | rfl | (simp only [spec_DeedText, h1, h2, cond_true, cond_false, Step.fin_stop, Step.fin_done, Fin.get_fin, Fin.get_done, Step.fin_next, Bool.not_true, Bool.not_false, Option.getD_some]) | (simp [spec_DeedText, h1, h2, cond_true, cond_false, Step.fin_stop, Step.fin_done, Fin.get_fin, Fin.get_done, Step.fin_next, Bool.not_true, Bool.not_false, Option.getD_some])
      exact congrArg (fun g : ByteArray => AV.one (.v (.string g))) hg.symm
  · refine And.intro (fun (h3 : (p0.Op == 2) = true) => ?_) (fun (h3 : (p0.Op == 2) = false) => ?_)
    · refine ⟨_, _, c_spec_NumText p0.Trace, (FzAs.same _), ?_⟩
      refine litE (m := 2) rfl ?_
      refine And.intro (fun _ => by have z1 := size_spec_NumText hr0.Trace; have z2 := size_spec_NumText hr0.N; have z3 := impl_SpanText_size hr0.S; rw [← main_SpanText hr0.S] at z3; have z4 := impl_CodeName_size p0.Code; rw [← main_CodeName] at z4; (try simp only [ByteArray.size_append]); simp only [bsz, List.size_toArray, List.length_cons, List.length_nil]; omega) ?_
      refine And.intro (fun (h4 : (p0.Lin == (-1)) = true) => ?_) (fun (h4 : (p0.Lin == (-1)) = false) => ?_)
      · refine And.intro (fun _ => by have z1 := size_spec_NumText hr0.Trace; have z2 := size_spec_NumText hr0.N; have z3 := impl_SpanText_size hr0.S; rw [← main_SpanText hr0.S] at z3; have z4 := impl_CodeName_size p0.Code; rw [← main_CodeName] at z4; (try simp only [ByteArray.size_append]); simp only [bsz, List.size_toArray, List.length_cons, List.length_nil]; omega) ?_
        refine And.intro (fun _ => .v _) ?_
        have hg : spec_DeedText p0 = (((ByteArray.mk #[106, 117, 100, 103, 101, 32]) ++ (spec_NumText p0.Trace)) ++ (ByteArray.mk #[32, 111, 112, 101, 110])) := by
          first | rfl | (simp only [spec_DeedText, h1, h3, h4, cond_true, cond_false, Step.fin_stop, Step.fin_done, Fin.get_fin, Fin.get_done, Step.fin_next, Bool.not_true, Bool.not_false, Option.getD_some]) | (simp [spec_DeedText, h1, h3, h4, cond_true, cond_false, Step.fin_stop, Step.fin_done, Fin.get_fin, Fin.get_done, Step.fin_next, Bool.not_true, Bool.not_false, Option.getD_some])
        exact congrArg (fun g : ByteArray => AV.one (.v (.string g))) hg.symm
      · refine And.intro (fun (h5 : p0.Void = true) => ?_) (fun (h5 : p0.Void = false) => ?_)
        · refine And.intro (fun _ => by have z1 := size_spec_NumText hr0.Trace; have z2 := size_spec_NumText hr0.N; have z3 := impl_SpanText_size hr0.S; rw [← main_SpanText hr0.S] at z3; have z4 := impl_CodeName_size p0.Code; rw [← main_CodeName] at z4; (try simp only [ByteArray.size_append]); simp only [bsz, List.size_toArray, List.length_cons, List.length_nil]; omega) ?_
          refine And.intro (fun _ => .v _) ?_
          have hg : spec_DeedText p0 = (((ByteArray.mk #[106, 117, 100, 103, 101, 32]) ++ (spec_NumText p0.Trace)) ++ (ByteArray.mk #[32, 118, 111, 105, 100])) := by
            first | rfl | (simp only [spec_DeedText, h1, h3, h4, h5, cond_true, cond_false, Step.fin_stop, Step.fin_done, Fin.get_fin, Fin.get_done, Step.fin_next, Bool.not_true, Bool.not_false, Option.getD_some]) | (simp [spec_DeedText, h1, h3, h4, h5, cond_true, cond_false, Step.fin_stop, Step.fin_done, Fin.get_fin, Fin.get_done, Step.fin_next, Bool.not_true, Bool.not_false, Option.getD_some])
          exact congrArg (fun g : ByteArray => AV.one (.v (.string g))) hg.symm
        · refine And.intro (fun (h6 : p0.Keep = true) => ?_) (fun (h6 : p0.Keep = false) => ?_)
          · refine And.intro (fun _ => by have z1 := size_spec_NumText hr0.Trace; have z2 := size_spec_NumText hr0.N; have z3 := impl_SpanText_size hr0.S; rw [← main_SpanText hr0.S] at z3; have z4 := impl_CodeName_size p0.Code; rw [← main_CodeName] at z4; (try simp only [ByteArray.size_append]); simp only [bsz, List.size_toArray, List.length_cons, List.length_nil]; omega) ?_
            refine ⟨_, _, c_spec_NumText p0.N, (FzAs.same _), ?_⟩
            refine litE (m := 3) rfl ?_
            refine And.intro (fun _ => by have z1 := size_spec_NumText hr0.Trace; have z2 := size_spec_NumText hr0.N; have z3 := impl_SpanText_size hr0.S; rw [← main_SpanText hr0.S] at z3; have z4 := impl_CodeName_size p0.Code; rw [← main_CodeName] at z4; (try simp only [ByteArray.size_append]); simp only [bsz, List.size_toArray, List.length_cons, List.length_nil]; omega) ?_
            refine And.intro (fun _ => .v _) ?_
            have hg : spec_DeedText p0 = ((((ByteArray.mk #[106, 117, 100, 103, 101, 32]) ++ (spec_NumText p0.Trace)) ++ (ByteArray.mk #[32, 107, 101, 112, 116, 32])) ++ (spec_NumText p0.N)) := by
              first | rfl | (simp only [spec_DeedText, h1, h3, h4, h5, h6, cond_true, cond_false, Step.fin_stop, Step.fin_done, Fin.get_fin, Fin.get_done, Step.fin_next, Bool.not_true, Bool.not_false, Option.getD_some]) | (simp [spec_DeedText, h1, h3, h4, h5, h6, cond_true, cond_false, Step.fin_stop, Step.fin_done, Fin.get_fin, Fin.get_done, Step.fin_next, Bool.not_true, Bool.not_false, Option.getD_some])
            exact congrArg (fun g : ByteArray => AV.one (.v (.string g))) hg.symm
          · refine And.intro (fun _ => by have z1 := size_spec_NumText hr0.Trace; have z2 := size_spec_NumText hr0.N; have z3 := impl_SpanText_size hr0.S; rw [← main_SpanText hr0.S] at z3; have z4 := impl_CodeName_size p0.Code; rw [← main_CodeName] at z4; (try simp only [ByteArray.size_append]); simp only [bsz, List.size_toArray, List.length_cons, List.length_nil]; omega) ?_
            refine ⟨_, _, c_spec_NumText p0.N, (FzAs.same _), ?_⟩
            refine litE (m := 3) rfl ?_
            refine And.intro (fun _ => by have z1 := size_spec_NumText hr0.Trace; have z2 := size_spec_NumText hr0.N; have z3 := impl_SpanText_size hr0.S; rw [← main_SpanText hr0.S] at z3; have z4 := impl_CodeName_size p0.Code; rw [← main_CodeName] at z4; (try simp only [ByteArray.size_append]); simp only [bsz, List.size_toArray, List.length_cons, List.length_nil]; omega) ?_
            refine And.intro (fun _ => .v _) ?_
            have hg : spec_DeedText p0 = ((((ByteArray.mk #[106, 117, 100, 103, 101, 32]) ++ (spec_NumText p0.Trace)) ++ (ByteArray.mk #[32, 100, 114, 111, 112, 112, 101, 100, 32])) ++ (spec_NumText p0.N)) := by
              first | rfl | (simp only [spec_DeedText, h1, h3, h4, h5, h6, cond_true, cond_false, Step.fin_stop, Step.fin_done, Fin.get_fin, Fin.get_done, Step.fin_next, Bool.not_true, Bool.not_false, Option.getD_some]) | (simp [spec_DeedText, h1, h3, h4, h5, h6, cond_true, cond_false, Step.fin_stop, Step.fin_done, Fin.get_fin, Fin.get_done, Step.fin_next, Bool.not_true, Bool.not_false, Option.getD_some])
            exact congrArg (fun g : ByteArray => AV.one (.v (.string g))) hg.symm
    · refine And.intro (fun (h7 : (p0.Op == 3) = true) => ?_) (fun (h7 : (p0.Op == 3) = false) => ?_)
      · refine .inl ⟨by kernel_rfl, ?_⟩
        refine ⟨_, _, c_spec_NumText p0.Trace, (FzAs.same _), ?_⟩
        refine And.intro (fun _ => by have z1 := size_spec_NumText hr0.Trace; have z2 := size_spec_NumText hr0.N; have z3 := impl_SpanText_size hr0.S; rw [← main_SpanText hr0.S] at z3; have z4 := impl_CodeName_size p0.Code; rw [← main_CodeName] at z4; (try simp only [ByteArray.size_append]); simp only [bsz, List.size_toArray, List.length_cons, List.length_nil]; omega) ?_
        refine And.intro (fun _ => by have z1 := size_spec_NumText hr0.Trace; have z2 := size_spec_NumText hr0.N; have z3 := impl_SpanText_size hr0.S; rw [← main_SpanText hr0.S] at z3; have z4 := impl_CodeName_size p0.Code; rw [← main_CodeName] at z4; (try simp only [ByteArray.size_append]); simp only [bsz, List.size_toArray, List.length_cons, List.length_nil]; omega) ?_
        refine ⟨_, _, c_spec_NumText p0.N, (FzAs.same _), ?_⟩
        refine And.intro (fun _ => by have z1 := size_spec_NumText hr0.Trace; have z2 := size_spec_NumText hr0.N; have z3 := impl_SpanText_size hr0.S; rw [← main_SpanText hr0.S] at z3; have z4 := impl_CodeName_size p0.Code; rw [← main_CodeName] at z4; (try simp only [ByteArray.size_append]); simp only [bsz, List.size_toArray, List.length_cons, List.length_nil]; omega) ?_
        refine And.intro (fun _ => .v _) ?_
        have hg : spec_DeedText p0 = ((((ByteArray.mk #[100, 114, 111, 112, 32]) ++ (spec_NumText p0.Trace)) ++ (ByteArray.mk #[32])) ++ (spec_NumText p0.N)) := by
          first | rfl | (simp only [spec_DeedText, h1, h3, h7, cond_true, cond_false, Step.fin_stop, Step.fin_done, Fin.get_fin, Fin.get_done, Step.fin_next, Bool.not_true, Bool.not_false, Option.getD_some]) | (simp [spec_DeedText, h1, h3, h7, cond_true, cond_false, Step.fin_stop, Step.fin_done, Fin.get_fin, Fin.get_done, Step.fin_next, Bool.not_true, Bool.not_false, Option.getD_some])
        exact congrArg (fun g : ByteArray => AV.one (.v (.string g))) hg.symm
      · refine And.intro (fun (h8 : (p0.Op == 4) = true) => ?_) (fun (h8 : (p0.Op == 4) = false) => ?_)
        · refine And.intro (fun _ => .v _) ?_
          have hg : spec_DeedText p0 = (ByteArray.mk #[115, 104, 117, 116]) := by
            first | rfl | (simp only [spec_DeedText, h1, h3, h7, h8, cond_true, cond_false, Step.fin_stop, Step.fin_done, Fin.get_fin, Fin.get_done, Step.fin_next, Bool.not_true, Bool.not_false, Option.getD_some]) | (simp [spec_DeedText, h1, h3, h7, h8, cond_true, cond_false, Step.fin_stop, Step.fin_done, Fin.get_fin, Fin.get_done, Step.fin_next, Bool.not_true, Bool.not_false, Option.getD_some])
          exact congrArg (fun g : ByteArray => AV.one (.v (.string g))) hg.symm
        · refine And.intro (fun _ => .v _) ?_
          have hg : spec_DeedText p0 = (ByteArray.mk #[]) := by
            first | rfl | (simp only [spec_DeedText, h1, h3, h7, h8, cond_true, cond_false, Step.fin_stop, Step.fin_done, Fin.get_fin, Fin.get_done, Step.fin_next, Bool.not_true, Bool.not_false, Option.getD_some]) | (simp [spec_DeedText, h1, h3, h7, h8, cond_true, cond_false, Step.fin_stop, Step.fin_done, Fin.get_fin, Fin.get_done, Step.fin_next, Bool.not_true, Bool.not_false, Option.getD_some])
          exact congrArg (fun g : ByteArray => AV.one (.v (.string g))) hg.symm
theorem c_spec_DeedText (p0 : Deed) : FnOk prog 11 [.agg ((Deed.cells false) p0)] ⟨.one (.v (.string (spec_DeedText p0))), [], [], false⟩ :=
  FnOk.fits ⟨_, func11, by kernel_rfl, by kernel_rfl⟩ (fun hf => cr_spec_DeedText p0 (rg_Deed hf.1))
def impl_DeedText (p0 : Deed) : ByteArray :=
  (bif (p0.Op == 1) then (bif (p0.Lin != (-1)) then ((((ByteArray.mk #[111, 102, 102, 101, 114, 32]) ++ (impl_SpanText p0.S)) ++ (ByteArray.mk #[32])) ++ (impl_CodeName p0.Code)) else ((((ByteArray.mk #[111, 102, 102, 101, 114, 32]) ++ (impl_SpanText p0.S)) ++ (ByteArray.mk #[32])) ++ (ByteArray.mk #[111, 112, 101, 110]))) else (bif (p0.Op == 2) then (bif (!(p0.Lin != (-1))) then (((ByteArray.mk #[106, 117, 100, 103, 101, 32]) ++ (impl_NumText p0.Trace)) ++ (ByteArray.mk #[32, 111, 112, 101, 110])) else (bif p0.Void then (((ByteArray.mk #[106, 117, 100, 103, 101, 32]) ++ (impl_NumText p0.Trace)) ++ (ByteArray.mk #[32, 118, 111, 105, 100])) else (bif p0.Keep then ((((ByteArray.mk #[106, 117, 100, 103, 101, 32]) ++ (impl_NumText p0.Trace)) ++ (ByteArray.mk #[32, 107, 101, 112, 116, 32])) ++ (impl_NumText p0.N)) else ((((ByteArray.mk #[106, 117, 100, 103, 101, 32]) ++ (impl_NumText p0.Trace)) ++ (ByteArray.mk #[32, 100, 114, 111, 112, 112, 101, 100, 32])) ++ (impl_NumText p0.N))))) else (bif (p0.Op == 3) then ((((ByteArray.mk #[100, 114, 111, 112, 32]) ++ (impl_NumText p0.Trace)) ++ (ByteArray.mk #[32])) ++ (impl_NumText p0.N)) else (bif (p0.Op == 4) then (ByteArray.mk #[115, 104, 117, 116]) else (ByteArray.mk #[])))))
theorem cr_impl_DeedText (p0 : Deed) (hr0 : Deed.rg p0) : FnOk prog 13 [.agg ((Deed.cells false) p0)] ⟨.one (.v (.string (impl_DeedText p0))), [], [], false⟩ := by
  refine FnOk.intro (E := env) envOk wide func13 rfl (by kernel_rfl) rfl rfl ?_
  refine litE (m := 0) rfl ?_
  refine And.intro (fun (h1 : (p0.Op == 1) = true) => ?_) (fun (h1 : (p0.Op == 1) = false) => ?_)
  · refine And.intro (fun (h2 : (p0.Lin != (-1)) = true) => ?_) (fun (h2 : (p0.Lin != (-1)) = false) => ?_)
    · refine ⟨_, _, c_impl_CodeName p0.Code, (FzAs.same _), ?_⟩
      refine litE (m := 2) rfl ?_
      refine ⟨_, _, c_impl_SpanText p0.S, (FzAs.same _), ?_⟩
      refine litE (m := 3) rfl ?_
      refine And.intro (fun _ => by have z1 := impl_NumText_size hr0.Trace; have z2 := impl_NumText_size hr0.N; have z3 := impl_SpanText_size hr0.S; have z4 := impl_CodeName_size p0.Code; (try simp only [ByteArray.size_append]); simp only [bsz, List.size_toArray, List.length_cons, List.length_nil]; omega) ?_
      refine And.intro (fun _ => by have z1 := impl_NumText_size hr0.Trace; have z2 := impl_NumText_size hr0.N; have z3 := impl_SpanText_size hr0.S; have z4 := impl_CodeName_size p0.Code; (try simp only [ByteArray.size_append]); simp only [bsz, List.size_toArray, List.length_cons, List.length_nil]; omega) ?_
      refine And.intro (fun _ => by have z1 := impl_NumText_size hr0.Trace; have z2 := impl_NumText_size hr0.N; have z3 := impl_SpanText_size hr0.S; have z4 := impl_CodeName_size p0.Code; (try simp only [ByteArray.size_append]); simp only [bsz, List.size_toArray, List.length_cons, List.length_nil]; omega) ?_
      refine And.intro (fun _ => .v _) ?_
      have hg : impl_DeedText p0 = ((((ByteArray.mk #[111, 102, 102, 101, 114, 32]) ++ (impl_SpanText p0.S)) ++ (ByteArray.mk #[32])) ++ (impl_CodeName p0.Code)) := by
        first | rfl | (simp only [impl_DeedText, h1, h2, cond_true, cond_false, Step.fin_stop, Step.fin_done, Fin.get_fin, Fin.get_done, Step.fin_next, Bool.not_true, Bool.not_false, Option.getD_some]) | (simp [impl_DeedText, h1, h2, cond_true, cond_false, Step.fin_stop, Step.fin_done, Fin.get_fin, Fin.get_done, Step.fin_next, Bool.not_true, Bool.not_false, Option.getD_some])
      exact congrArg (fun g : ByteArray => AV.one (.v (.string g))) hg.symm
    · refine ⟨_, _, c_impl_SpanText p0.S, (FzAs.same _), ?_⟩
      refine litE (m := 2) rfl ?_
      refine And.intro (fun _ => by have z1 := impl_NumText_size hr0.Trace; have z2 := impl_NumText_size hr0.N; have z3 := impl_SpanText_size hr0.S; have z4 := impl_CodeName_size p0.Code; (try simp only [ByteArray.size_append]); simp only [bsz, List.size_toArray, List.length_cons, List.length_nil]; omega) ?_
      refine And.intro (fun _ => by have z1 := impl_NumText_size hr0.Trace; have z2 := impl_NumText_size hr0.N; have z3 := impl_SpanText_size hr0.S; have z4 := impl_CodeName_size p0.Code; (try simp only [ByteArray.size_append]); simp only [bsz, List.size_toArray, List.length_cons, List.length_nil]; omega) ?_
      refine And.intro (fun _ => by have z1 := impl_NumText_size hr0.Trace; have z2 := impl_NumText_size hr0.N; have z3 := impl_SpanText_size hr0.S; have z4 := impl_CodeName_size p0.Code; (try simp only [ByteArray.size_append]); simp only [bsz, List.size_toArray, List.length_cons, List.length_nil]; omega) ?_
      refine And.intro (fun _ => .v _) ?_
      have hg : impl_DeedText p0 = ((((ByteArray.mk #[111, 102, 102, 101, 114, 32]) ++ (impl_SpanText p0.S)) ++ (ByteArray.mk #[32])) ++ (ByteArray.mk #[111, 112, 101, 110])) := by
        first | rfl | (simp only [impl_DeedText, h1, h2, cond_true, cond_false, Step.fin_stop, Step.fin_done, Fin.get_fin, Fin.get_done, Step.fin_next, Bool.not_true, Bool.not_false, Option.getD_some]) | (simp [impl_DeedText, h1, h2, cond_true, cond_false, Step.fin_stop, Step.fin_done, Fin.get_fin, Fin.get_done, Step.fin_next, Bool.not_true, Bool.not_false, Option.getD_some])
      exact congrArg (fun g : ByteArray => AV.one (.v (.string g))) hg.symm
  · refine And.intro (fun (h3 : (p0.Op == 2) = true) => ?_) (fun (h3 : (p0.Op == 2) = false) => ?_)
    · refine ⟨_, _, c_impl_NumText p0.Trace, (FzAs.same _), ?_⟩
      refine litE (m := 2) rfl ?_
      refine And.intro (fun _ => by have z1 := impl_NumText_size hr0.Trace; have z2 := impl_NumText_size hr0.N; have z3 := impl_SpanText_size hr0.S; have z4 := impl_CodeName_size p0.Code; (try simp only [ByteArray.size_append]); simp only [bsz, List.size_toArray, List.length_cons, List.length_nil]; omega) ?_
      refine And.intro (fun (h4 : (!(p0.Lin != (-1))) = true) => ?_) (fun (h4 : (!(p0.Lin != (-1))) = false) => ?_)
      · refine And.intro (fun _ => by have z1 := impl_NumText_size hr0.Trace; have z2 := impl_NumText_size hr0.N; have z3 := impl_SpanText_size hr0.S; have z4 := impl_CodeName_size p0.Code; (try simp only [ByteArray.size_append]); simp only [bsz, List.size_toArray, List.length_cons, List.length_nil]; omega) ?_
        refine And.intro (fun _ => .v _) ?_
        have hg : impl_DeedText p0 = (((ByteArray.mk #[106, 117, 100, 103, 101, 32]) ++ (impl_NumText p0.Trace)) ++ (ByteArray.mk #[32, 111, 112, 101, 110])) := by
          first | rfl | (simp only [impl_DeedText, h1, h3, h4, cond_true, cond_false, Step.fin_stop, Step.fin_done, Fin.get_fin, Fin.get_done, Step.fin_next, Bool.not_true, Bool.not_false, Option.getD_some]) | (simp [impl_DeedText, h1, h3, h4, cond_true, cond_false, Step.fin_stop, Step.fin_done, Fin.get_fin, Fin.get_done, Step.fin_next, Bool.not_true, Bool.not_false, Option.getD_some])
        exact congrArg (fun g : ByteArray => AV.one (.v (.string g))) hg.symm
      · refine And.intro (fun (h5 : p0.Void = true) => ?_) (fun (h5 : p0.Void = false) => ?_)
        · refine And.intro (fun _ => by have z1 := impl_NumText_size hr0.Trace; have z2 := impl_NumText_size hr0.N; have z3 := impl_SpanText_size hr0.S; have z4 := impl_CodeName_size p0.Code; (try simp only [ByteArray.size_append]); simp only [bsz, List.size_toArray, List.length_cons, List.length_nil]; omega) ?_
          refine And.intro (fun _ => .v _) ?_
          have hg : impl_DeedText p0 = (((ByteArray.mk #[106, 117, 100, 103, 101, 32]) ++ (impl_NumText p0.Trace)) ++ (ByteArray.mk #[32, 118, 111, 105, 100])) := by
            first | rfl | (simp only [impl_DeedText, h1, h3, h4, h5, cond_true, cond_false, Step.fin_stop, Step.fin_done, Fin.get_fin, Fin.get_done, Step.fin_next, Bool.not_true, Bool.not_false, Option.getD_some]) | (simp [impl_DeedText, h1, h3, h4, h5, cond_true, cond_false, Step.fin_stop, Step.fin_done, Fin.get_fin, Fin.get_done, Step.fin_next, Bool.not_true, Bool.not_false, Option.getD_some])
          exact congrArg (fun g : ByteArray => AV.one (.v (.string g))) hg.symm
        · refine And.intro (fun (h6 : p0.Keep = true) => ?_) (fun (h6 : p0.Keep = false) => ?_)
          · refine And.intro (fun _ => by have z1 := impl_NumText_size hr0.Trace; have z2 := impl_NumText_size hr0.N; have z3 := impl_SpanText_size hr0.S; have z4 := impl_CodeName_size p0.Code; (try simp only [ByteArray.size_append]); simp only [bsz, List.size_toArray, List.length_cons, List.length_nil]; omega) ?_
            refine ⟨_, _, c_impl_NumText p0.N, (FzAs.same _), ?_⟩
            refine litE (m := 3) rfl ?_
            refine And.intro (fun _ => by have z1 := impl_NumText_size hr0.Trace; have z2 := impl_NumText_size hr0.N; have z3 := impl_SpanText_size hr0.S; have z4 := impl_CodeName_size p0.Code; (try simp only [ByteArray.size_append]); simp only [bsz, List.size_toArray, List.length_cons, List.length_nil]; omega) ?_
            refine And.intro (fun _ => .v _) ?_
            have hg : impl_DeedText p0 = ((((ByteArray.mk #[106, 117, 100, 103, 101, 32]) ++ (impl_NumText p0.Trace)) ++ (ByteArray.mk #[32, 107, 101, 112, 116, 32])) ++ (impl_NumText p0.N)) := by
              first | rfl | (simp only [impl_DeedText, h1, h3, h4, h5, h6, cond_true, cond_false, Step.fin_stop, Step.fin_done, Fin.get_fin, Fin.get_done, Step.fin_next, Bool.not_true, Bool.not_false, Option.getD_some]) | (simp [impl_DeedText, h1, h3, h4, h5, h6, cond_true, cond_false, Step.fin_stop, Step.fin_done, Fin.get_fin, Fin.get_done, Step.fin_next, Bool.not_true, Bool.not_false, Option.getD_some])
            exact congrArg (fun g : ByteArray => AV.one (.v (.string g))) hg.symm
          · refine And.intro (fun _ => by have z1 := impl_NumText_size hr0.Trace; have z2 := impl_NumText_size hr0.N; have z3 := impl_SpanText_size hr0.S; have z4 := impl_CodeName_size p0.Code; (try simp only [ByteArray.size_append]); simp only [bsz, List.size_toArray, List.length_cons, List.length_nil]; omega) ?_
            refine ⟨_, _, c_impl_NumText p0.N, (FzAs.same _), ?_⟩
            refine litE (m := 3) rfl ?_
            refine And.intro (fun _ => by have z1 := impl_NumText_size hr0.Trace; have z2 := impl_NumText_size hr0.N; have z3 := impl_SpanText_size hr0.S; have z4 := impl_CodeName_size p0.Code; (try simp only [ByteArray.size_append]); simp only [bsz, List.size_toArray, List.length_cons, List.length_nil]; omega) ?_
            refine And.intro (fun _ => .v _) ?_
            have hg : impl_DeedText p0 = ((((ByteArray.mk #[106, 117, 100, 103, 101, 32]) ++ (impl_NumText p0.Trace)) ++ (ByteArray.mk #[32, 100, 114, 111, 112, 112, 101, 100, 32])) ++ (impl_NumText p0.N)) := by
              first | rfl | (simp only [impl_DeedText, h1, h3, h4, h5, h6, cond_true, cond_false, Step.fin_stop, Step.fin_done, Fin.get_fin, Fin.get_done, Step.fin_next, Bool.not_true, Bool.not_false, Option.getD_some]) | (simp [impl_DeedText, h1, h3, h4, h5, h6, cond_true, cond_false, Step.fin_stop, Step.fin_done, Fin.get_fin, Fin.get_done, Step.fin_next, Bool.not_true, Bool.not_false, Option.getD_some])
            exact congrArg (fun g : ByteArray => AV.one (.v (.string g))) hg.symm
    · refine And.intro (fun (h7 : (p0.Op == 3) = true) => ?_) (fun (h7 : (p0.Op == 3) = false) => ?_)
      · refine .inl ⟨by kernel_rfl, ?_⟩
        refine ⟨_, _, c_impl_NumText p0.Trace, (FzAs.same _), ?_⟩
        refine And.intro (fun _ => by have z1 := impl_NumText_size hr0.Trace; have z2 := impl_NumText_size hr0.N; have z3 := impl_SpanText_size hr0.S; have z4 := impl_CodeName_size p0.Code; (try simp only [ByteArray.size_append]); simp only [bsz, List.size_toArray, List.length_cons, List.length_nil]; omega) ?_
        refine And.intro (fun _ => by have z1 := impl_NumText_size hr0.Trace; have z2 := impl_NumText_size hr0.N; have z3 := impl_SpanText_size hr0.S; have z4 := impl_CodeName_size p0.Code; (try simp only [ByteArray.size_append]); simp only [bsz, List.size_toArray, List.length_cons, List.length_nil]; omega) ?_
        refine ⟨_, _, c_impl_NumText p0.N, (FzAs.same _), ?_⟩
        refine And.intro (fun _ => by have z1 := impl_NumText_size hr0.Trace; have z2 := impl_NumText_size hr0.N; have z3 := impl_SpanText_size hr0.S; have z4 := impl_CodeName_size p0.Code; (try simp only [ByteArray.size_append]); simp only [bsz, List.size_toArray, List.length_cons, List.length_nil]; omega) ?_
        refine And.intro (fun _ => .v _) ?_
        have hg : impl_DeedText p0 = ((((ByteArray.mk #[100, 114, 111, 112, 32]) ++ (impl_NumText p0.Trace)) ++ (ByteArray.mk #[32])) ++ (impl_NumText p0.N)) := by
          first | rfl | (simp only [impl_DeedText, h1, h3, h7, cond_true, cond_false, Step.fin_stop, Step.fin_done, Fin.get_fin, Fin.get_done, Step.fin_next, Bool.not_true, Bool.not_false, Option.getD_some]) | (simp [impl_DeedText, h1, h3, h7, cond_true, cond_false, Step.fin_stop, Step.fin_done, Fin.get_fin, Fin.get_done, Step.fin_next, Bool.not_true, Bool.not_false, Option.getD_some])
        exact congrArg (fun g : ByteArray => AV.one (.v (.string g))) hg.symm
      · refine And.intro (fun (h8 : (p0.Op == 4) = true) => ?_) (fun (h8 : (p0.Op == 4) = false) => ?_)
        · refine And.intro (fun _ => .v _) ?_
          have hg : impl_DeedText p0 = (ByteArray.mk #[115, 104, 117, 116]) := by
            first | rfl | (simp only [impl_DeedText, h1, h3, h7, h8, cond_true, cond_false, Step.fin_stop, Step.fin_done, Fin.get_fin, Fin.get_done, Step.fin_next, Bool.not_true, Bool.not_false, Option.getD_some]) | (simp [impl_DeedText, h1, h3, h7, h8, cond_true, cond_false, Step.fin_stop, Step.fin_done, Fin.get_fin, Fin.get_done, Step.fin_next, Bool.not_true, Bool.not_false, Option.getD_some])
          exact congrArg (fun g : ByteArray => AV.one (.v (.string g))) hg.symm
        · refine And.intro (fun _ => .v _) ?_
          have hg : impl_DeedText p0 = (ByteArray.mk #[]) := by
            first | rfl | (simp only [impl_DeedText, h1, h3, h7, h8, cond_true, cond_false, Step.fin_stop, Step.fin_done, Fin.get_fin, Fin.get_done, Step.fin_next, Bool.not_true, Bool.not_false, Option.getD_some]) | (simp [impl_DeedText, h1, h3, h7, h8, cond_true, cond_false, Step.fin_stop, Step.fin_done, Fin.get_fin, Fin.get_done, Step.fin_next, Bool.not_true, Bool.not_false, Option.getD_some])
          exact congrArg (fun g : ByteArray => AV.one (.v (.string g))) hg.symm
theorem c_impl_DeedText (p0 : Deed) : FnOk prog 13 [.agg ((Deed.cells false) p0)] ⟨.one (.v (.string (impl_DeedText p0))), [], [], false⟩ :=
  FnOk.fits ⟨_, func13, by kernel_rfl, by kernel_rfl⟩ (fun hf => cr_impl_DeedText p0 (rg_Deed hf.1))
def laws_eqAttr (p0 : Attr) (p1 : Attr) : Bool :=
  (bif (!decide (p0.Key = p1.Key)) then false else (bif (!(p0.Num == p1.Num)) then false else (bif (p0.N != p1.N) then false else (bif (!decide (p0.Text = p1.Text)) then false else true))))
theorem c_laws_eqAttr (p0 : Attr) (p1 : Attr) : FnOk prog 43 [.agg (Attr.cells p0), .agg (Attr.cells p1)] ⟨.one (.v (.bool (laws_eqAttr p0 p1))), [], [], false⟩ := by
  refine FnOk.intro (E := env) envOk wide func43 rfl (by kernel_rfl) rfl rfl ?_
  refine litE (m := 0) rfl ?_
  refine litE (m := 1) rfl ?_
  refine And.intro (fun (h1 : (!decide (p0.Key = p1.Key)) = true) => ?_) (fun (h1 : (!decide (p0.Key = p1.Key)) = false) => ?_)
  · refine And.intro (fun _ => .v _) ?_
    have hg : laws_eqAttr p0 p1 = false := by
      first | rfl | (simp only [laws_eqAttr, h1, cond_true, cond_false, Step.fin_stop, Step.fin_done, Fin.get_fin, Fin.get_done, Step.fin_next, Bool.not_true, Bool.not_false, Option.getD_some]) | (simp [laws_eqAttr, h1, cond_true, cond_false, Step.fin_stop, Step.fin_done, Fin.get_fin, Fin.get_done, Step.fin_next, Bool.not_true, Bool.not_false, Option.getD_some])
    exact congrArg (fun g : Bool => AV.one (.v (.bool g))) hg.symm
  · refine And.intro (fun (h2 : (!(p0.Num == p1.Num)) = true) => ?_) (fun (h2 : (!(p0.Num == p1.Num)) = false) => ?_)
    · refine And.intro (fun _ => .v _) ?_
      have hg : laws_eqAttr p0 p1 = false := by
        first | rfl | (simp only [laws_eqAttr, h1, h2, cond_true, cond_false, Step.fin_stop, Step.fin_done, Fin.get_fin, Fin.get_done, Step.fin_next, Bool.not_true, Bool.not_false, Option.getD_some]) | (simp [laws_eqAttr, h1, h2, cond_true, cond_false, Step.fin_stop, Step.fin_done, Fin.get_fin, Fin.get_done, Step.fin_next, Bool.not_true, Bool.not_false, Option.getD_some])
      exact congrArg (fun g : Bool => AV.one (.v (.bool g))) hg.symm
    · refine And.intro (fun (h3 : (p0.N != p1.N) = true) => ?_) (fun (h3 : (p0.N != p1.N) = false) => ?_)
      · refine And.intro (fun _ => .v _) ?_
        have hg : laws_eqAttr p0 p1 = false := by
          first | rfl | (simp only [laws_eqAttr, h1, h2, h3, cond_true, cond_false, Step.fin_stop, Step.fin_done, Fin.get_fin, Fin.get_done, Step.fin_next, Bool.not_true, Bool.not_false, Option.getD_some]) | (simp [laws_eqAttr, h1, h2, h3, cond_true, cond_false, Step.fin_stop, Step.fin_done, Fin.get_fin, Fin.get_done, Step.fin_next, Bool.not_true, Bool.not_false, Option.getD_some])
        exact congrArg (fun g : Bool => AV.one (.v (.bool g))) hg.symm
      · refine And.intro (fun (h4 : (!decide (p0.Text = p1.Text)) = true) => ?_) (fun (h4 : (!decide (p0.Text = p1.Text)) = false) => ?_)
        · refine And.intro (fun _ => .v _) ?_
          have hg : laws_eqAttr p0 p1 = false := by
            first | rfl | (simp only [laws_eqAttr, h1, h2, h3, h4, cond_true, cond_false, Step.fin_stop, Step.fin_done, Fin.get_fin, Fin.get_done, Step.fin_next, Bool.not_true, Bool.not_false, Option.getD_some]) | (simp [laws_eqAttr, h1, h2, h3, h4, cond_true, cond_false, Step.fin_stop, Step.fin_done, Fin.get_fin, Fin.get_done, Step.fin_next, Bool.not_true, Bool.not_false, Option.getD_some])
          exact congrArg (fun g : Bool => AV.one (.v (.bool g))) hg.symm
        · refine And.intro (fun _ => .v _) ?_
          have hg : laws_eqAttr p0 p1 = true := by
            first | rfl | (simp only [laws_eqAttr, h1, h2, h3, h4, cond_true, cond_false, Step.fin_stop, Step.fin_done, Fin.get_fin, Fin.get_done, Step.fin_next, Bool.not_true, Bool.not_false, Option.getD_some]) | (simp [laws_eqAttr, h1, h2, h3, h4, cond_true, cond_false, Step.fin_stop, Step.fin_done, Fin.get_fin, Fin.get_done, Step.fin_next, Bool.not_true, Bool.not_false, Option.getD_some])
          exact congrArg (fun g : Bool => AV.one (.v (.bool g))) hg.symm
theorem rf_laws_eqAttr (x : Attr) : laws_eqAttr x x = true := by
  simp [laws_eqAttr]
def laws_eqAttrS_b1 (p1 : (List Attr)) (i1 : Nat) (s1 : Unit) (a1 : Attr) : Step (Unit) Bool :=
  (bif (!(laws_eqAttr a1 (p1[i1]?.getD default))) then (.done false) else (.next ()))
def laws_eqAttrS (p0 : (List Attr)) (p1 : (List Attr)) : Bool :=
  (bif ((((p0).length : Nat) : Int) != (((p1).length : Nat) : Int)) then false else (Fin.get (fun s1 => true) (loopL (laws_eqAttrS_b1 p1) 0 () p0)))
theorem c_laws_eqAttrS (p0 : (List Attr)) (p1 : (List Attr)) : FnOk prog 31 [.one (.s false 4 (List.map Attr.cells p0)), .one (.s false 4 (List.map Attr.cells p1))] ⟨.one (.v (.bool (laws_eqAttrS p0 p1))), [], [], false⟩ := by
  refine FnOk.intro (E := env) envOk wide func31 rfl (by kernel_rfl) rfl rfl ?_
  refine lenE (k := (p0).length) (by simp) (fun hN1 => ?_)
  refine lenE (k := (p1).length) (by simp) (fun hN2 => ?_)
  refine And.intro (fun (h3 : ((((p0).length : Nat) : Int) != (((p1).length : Nat) : Int)) = true) => ?_) (fun (h3 : ((((p0).length : Nat) : Int) != (((p1).length : Nat) : Int)) = false) => ?_)
  · refine And.intro (fun _ => .v _) ?_
    have hg : laws_eqAttrS p0 p1 = false := by
      first | rfl | (simp only [laws_eqAttrS, h3, cond_true, cond_false, Step.fin_stop, Step.fin_done, Fin.get_fin, Fin.get_done, Step.fin_next, Bool.not_true, Bool.not_false, Option.getD_some]) | (simp [laws_eqAttrS, h3, cond_true, cond_false, Step.fin_stop, Step.fin_done, Fin.get_fin, Fin.get_done, Step.fin_next, Bool.not_true, Bool.not_false, Option.getD_some])
    exact congrArg (fun g : Bool => AV.one (.v (.bool g))) hg.symm
  · refine loop_rule (α := LstSt (laws_eqAttrS_b1 p1) () p0) [0, 1] (fun x1 => [(5, .one (.v (.int .i64 ((x1.i : Nat) : Int))))]) (fun x1 => []) (fun x1 => (p0).length - x1.i) .init [] ?_ (fun x1 => ?_)
    · exact ⟨rfl, ⟨rfl, rfl, rfl, trivial⟩, trivial, trivial⟩
    · refine lenE (k := (p0).length) (by simp) (fun hN4 => ?_)
      refine And.intro (fun (h5 : (decide (((x1.i : Nat) : Int) < (((p0).length : Nat) : Int))) = true) => ?_) (fun (h5 : (decide (((x1.i : Nat) : Int) < (((p0).length : Nat) : Int))) = false) => ?_)
      · have hi1 : x1.i < (p0).length := by simpa using h5
        have hw1 : IntKind.i64.wrap ((x1.i : Int) + 1) = ((x1.i + 1 : Nat) : Int) := wrap_succ hi1 (by first | assumption | omega)
        refine .inl ⟨by kernel_rfl, ?_⟩
        refine And.intro (fun _ => by exact idx_at hi1) (rowAtE (i := x1.i) (l := p0) rfl hi1 ?_)
        refine And.intro (fun _ => by (first | omega | (simp; done) | (simp; omega) | (simp at *; omega) | (simp at *; done) | (simp_all; done) | (simp_all; omega))) (rowOfE (i := x1.i) (l := p1) rfl (fun e6 he6 => ?_))
        refine ⟨_, _, c_laws_eqAttr (p0[x1.i]'hi1) e6, (FzAs.same _), ?_⟩
        refine And.intro (fun (h7 : (!(laws_eqAttr (p0[x1.i]'hi1) e6)) = true) => ?_) (fun (h7 : (!(laws_eqAttr (p0[x1.i]'hi1) e6)) = false) => ?_)
        · have hb1 := x1.out hi1 (by first | rfl | simp only [laws_eqAttrS_b1, h3, h5, he6, h7, cond_true, cond_false, Bool.not_true, Bool.not_false, Option.getD_some, Step.isNext_stop, Step.isNext_done, Step.fin_stop, Step.fin_done, Fin.get_fin, Fin.get_done])
          refine And.intro (fun _ => .v _) ?_
          have hg : laws_eqAttrS p0 p1 = false := by
            first | rfl | (simp only [laws_eqAttrS, laws_eqAttrS_b1, h3, h5, he6, h7, hb1, cond_true, cond_false, Step.fin_stop, Step.fin_done, Fin.get_fin, Fin.get_done, Step.fin_next, Bool.not_true, Bool.not_false, Option.getD_some]) | (simp [laws_eqAttrS, laws_eqAttrS_b1, h3, h5, he6, h7, hb1, cond_true, cond_false, Step.fin_stop, Step.fin_done, Fin.get_fin, Fin.get_done, Step.fin_next, Bool.not_true, Bool.not_false, Option.getD_some])
          exact congrArg (fun g : Bool => AV.one (.v (.bool g))) hg.symm
        · refine x1.go hi1 (v := ()) (by first | rfl | simp only [laws_eqAttrS_b1, h3, h5, he6, h7, cond_true, cond_false, Bool.not_true, Bool.not_false, Option.getD_some, Step.fin_stop, Step.fin_done, Fin.get_fin, Fin.get_done]) [] (by show _ - (x1.i + 1) < _ - x1.i; omega) ?_
          exact ⟨rfl, ⟨(eqInt hw1), rfl, rfl, trivial⟩, trivial, trivial⟩
      · have hf1 := x1.fin (show ¬ x1.i < (p0).length by simpa using h5)
        refine And.intro (fun _ => .v _) ?_
        have hg : laws_eqAttrS p0 p1 = true := by
          first | rfl | (simp only [laws_eqAttrS, laws_eqAttrS_b1, h3, h5, hf1, cond_true, cond_false, Step.fin_stop, Step.fin_done, Fin.get_fin, Fin.get_done, Step.fin_next, Bool.not_true, Bool.not_false, Option.getD_some]) | (simp [laws_eqAttrS, laws_eqAttrS_b1, h3, h5, hf1, cond_true, cond_false, Step.fin_stop, Step.fin_done, Fin.get_fin, Fin.get_done, Step.fin_next, Bool.not_true, Bool.not_false, Option.getD_some])
        exact congrArg (fun g : Bool => AV.one (.v (.bool g))) hg.symm
theorem rf_laws_eqAttrS (x : (List Attr)) : laws_eqAttrS x x = true := eqS_ok (b := laws_eqAttrS_b1) rf_laws_eqAttr (fun _ _ _ _ => rfl) (fun _ _ => rfl) x
def laws_eqSpan (p0 : Span) (p1 : Span) : Bool :=
  (bif (p0.Trace != p1.Trace) then false else (bif (p0.Id != p1.Id) then false else (bif (p0.Start != p1.Start) then false else (bif (p0.End != p1.End) then false else (bif (!(p0.Err == p1.Err)) then false else (bif (!(laws_eqAttrS p0.Attrs p1.Attrs)) then false else true))))))
theorem c_laws_eqSpan (p0 : Span) (p1 : Span) : FnOk prog 21 [.agg ((Span.cells false) p0), .agg ((Span.cells false) p1)] ⟨.one (.v (.bool (laws_eqSpan p0 p1))), [], [], false⟩ := by
  refine FnOk.intro (E := env) envOk wide func21 rfl (by kernel_rfl) rfl rfl ?_
  refine litE (m := 0) rfl ?_
  refine litE (m := 1) rfl ?_
  refine And.intro (fun (h1 : (p0.Trace != p1.Trace) = true) => ?_) (fun (h1 : (p0.Trace != p1.Trace) = false) => ?_)
  · refine And.intro (fun _ => .v _) ?_
    have hg : laws_eqSpan p0 p1 = false := by
      first | rfl | (simp only [laws_eqSpan, h1, cond_true, cond_false, Step.fin_stop, Step.fin_done, Fin.get_fin, Fin.get_done, Step.fin_next, Bool.not_true, Bool.not_false, Option.getD_some]) | (simp [laws_eqSpan, h1, cond_true, cond_false, Step.fin_stop, Step.fin_done, Fin.get_fin, Fin.get_done, Step.fin_next, Bool.not_true, Bool.not_false, Option.getD_some])
    exact congrArg (fun g : Bool => AV.one (.v (.bool g))) hg.symm
  · refine And.intro (fun (h2 : (p0.Id != p1.Id) = true) => ?_) (fun (h2 : (p0.Id != p1.Id) = false) => ?_)
    · refine And.intro (fun _ => .v _) ?_
      have hg : laws_eqSpan p0 p1 = false := by
        first | rfl | (simp only [laws_eqSpan, h1, h2, cond_true, cond_false, Step.fin_stop, Step.fin_done, Fin.get_fin, Fin.get_done, Step.fin_next, Bool.not_true, Bool.not_false, Option.getD_some]) | (simp [laws_eqSpan, h1, h2, cond_true, cond_false, Step.fin_stop, Step.fin_done, Fin.get_fin, Fin.get_done, Step.fin_next, Bool.not_true, Bool.not_false, Option.getD_some])
      exact congrArg (fun g : Bool => AV.one (.v (.bool g))) hg.symm
    · refine And.intro (fun (h3 : (p0.Start != p1.Start) = true) => ?_) (fun (h3 : (p0.Start != p1.Start) = false) => ?_)
      · refine And.intro (fun _ => .v _) ?_
        have hg : laws_eqSpan p0 p1 = false := by
          first | rfl | (simp only [laws_eqSpan, h1, h2, h3, cond_true, cond_false, Step.fin_stop, Step.fin_done, Fin.get_fin, Fin.get_done, Step.fin_next, Bool.not_true, Bool.not_false, Option.getD_some]) | (simp [laws_eqSpan, h1, h2, h3, cond_true, cond_false, Step.fin_stop, Step.fin_done, Fin.get_fin, Fin.get_done, Step.fin_next, Bool.not_true, Bool.not_false, Option.getD_some])
        exact congrArg (fun g : Bool => AV.one (.v (.bool g))) hg.symm
      · refine And.intro (fun (h4 : (p0.End != p1.End) = true) => ?_) (fun (h4 : (p0.End != p1.End) = false) => ?_)
        · refine And.intro (fun _ => .v _) ?_
          have hg : laws_eqSpan p0 p1 = false := by
            first | rfl | (simp only [laws_eqSpan, h1, h2, h3, h4, cond_true, cond_false, Step.fin_stop, Step.fin_done, Fin.get_fin, Fin.get_done, Step.fin_next, Bool.not_true, Bool.not_false, Option.getD_some]) | (simp [laws_eqSpan, h1, h2, h3, h4, cond_true, cond_false, Step.fin_stop, Step.fin_done, Fin.get_fin, Fin.get_done, Step.fin_next, Bool.not_true, Bool.not_false, Option.getD_some])
          exact congrArg (fun g : Bool => AV.one (.v (.bool g))) hg.symm
        · refine And.intro (fun (h5 : (!(p0.Err == p1.Err)) = true) => ?_) (fun (h5 : (!(p0.Err == p1.Err)) = false) => ?_)
          · refine And.intro (fun _ => .v _) ?_
            have hg : laws_eqSpan p0 p1 = false := by
              first | rfl | (simp only [laws_eqSpan, h1, h2, h3, h4, h5, cond_true, cond_false, Step.fin_stop, Step.fin_done, Fin.get_fin, Fin.get_done, Step.fin_next, Bool.not_true, Bool.not_false, Option.getD_some]) | (simp [laws_eqSpan, h1, h2, h3, h4, h5, cond_true, cond_false, Step.fin_stop, Step.fin_done, Fin.get_fin, Fin.get_done, Step.fin_next, Bool.not_true, Bool.not_false, Option.getD_some])
            exact congrArg (fun g : Bool => AV.one (.v (.bool g))) hg.symm
          · refine ⟨_, _, c_laws_eqAttrS p0.Attrs p1.Attrs, (FzAs.same _), ?_⟩
            refine litE (m := 3) rfl ?_
            refine And.intro (fun (h6 : (!(laws_eqAttrS p0.Attrs p1.Attrs)) = true) => ?_) (fun (h6 : (!(laws_eqAttrS p0.Attrs p1.Attrs)) = false) => ?_)
            · refine And.intro (fun _ => .v _) ?_
              have hg : laws_eqSpan p0 p1 = false := by
                first | rfl | (simp only [laws_eqSpan, h1, h2, h3, h4, h5, h6, cond_true, cond_false, Step.fin_stop, Step.fin_done, Fin.get_fin, Fin.get_done, Step.fin_next, Bool.not_true, Bool.not_false, Option.getD_some]) | (simp [laws_eqSpan, h1, h2, h3, h4, h5, h6, cond_true, cond_false, Step.fin_stop, Step.fin_done, Fin.get_fin, Fin.get_done, Step.fin_next, Bool.not_true, Bool.not_false, Option.getD_some])
              exact congrArg (fun g : Bool => AV.one (.v (.bool g))) hg.symm
            · refine And.intro (fun _ => .v _) ?_
              have hg : laws_eqSpan p0 p1 = true := by
                first | rfl | (simp only [laws_eqSpan, h1, h2, h3, h4, h5, h6, cond_true, cond_false, Step.fin_stop, Step.fin_done, Fin.get_fin, Fin.get_done, Step.fin_next, Bool.not_true, Bool.not_false, Option.getD_some]) | (simp [laws_eqSpan, h1, h2, h3, h4, h5, h6, cond_true, cond_false, Step.fin_stop, Step.fin_done, Fin.get_fin, Fin.get_done, Step.fin_next, Bool.not_true, Bool.not_false, Option.getD_some])
              exact congrArg (fun g : Bool => AV.one (.v (.bool g))) hg.symm
theorem rf_laws_eqSpan (x : Span) : laws_eqSpan x x = true := by
  simp [laws_eqSpan, rf_laws_eqAttr, rf_laws_eqAttrS]
def laws_eqDeed (p0 : Deed) (p1 : Deed) : Bool :=
  (bif (p0.Op != p1.Op) then false else (bif (p0.Task != p1.Task) then false else (bif (!(laws_eqSpan p0.S p1.S)) then false else (bif (p0.Trace != p1.Trace) then false else (bif (p0.Stamp != p1.Stamp) then false else (bif (p0.Code != p1.Code) then false else (bif (!(p0.Keep == p1.Keep)) then false else (bif (!(p0.Void == p1.Void)) then false else (bif (p0.Took != p1.Took) then false else (bif (p0.N != p1.N) then false else (bif (p0.Forgot != p1.Forgot) then false else (bif (p0.Now != p1.Now) then false else (bif (p0.Inv != p1.Inv) then false else (bif (p0.Lin != p1.Lin) then false else (bif (p0.Res != p1.Res) then false else true)))))))))))))))
theorem c_laws_eqDeed (p0 : Deed) (p1 : Deed) : FnOk prog 14 [.agg ((Deed.cells false) p0), .agg ((Deed.cells false) p1)] ⟨.one (.v (.bool (laws_eqDeed p0 p1))), [], [], false⟩ := by
  refine FnOk.intro (E := env) envOk wide func14 rfl (by kernel_rfl) rfl rfl ?_
  refine litE (m := 0) rfl ?_
  refine litE (m := 1) rfl ?_
  refine And.intro (fun (h1 : (p0.Op != p1.Op) = true) => ?_) (fun (h1 : (p0.Op != p1.Op) = false) => ?_)
  · refine And.intro (fun _ => .v _) ?_
    have hg : laws_eqDeed p0 p1 = false := by
      first | rfl | (simp only [laws_eqDeed, h1, cond_true, cond_false, Step.fin_stop, Step.fin_done, Fin.get_fin, Fin.get_done, Step.fin_next, Bool.not_true, Bool.not_false, Option.getD_some]) | (simp [laws_eqDeed, h1, cond_true, cond_false, Step.fin_stop, Step.fin_done, Fin.get_fin, Fin.get_done, Step.fin_next, Bool.not_true, Bool.not_false, Option.getD_some])
    exact congrArg (fun g : Bool => AV.one (.v (.bool g))) hg.symm
  · refine And.intro (fun (h2 : (p0.Task != p1.Task) = true) => ?_) (fun (h2 : (p0.Task != p1.Task) = false) => ?_)
    · refine And.intro (fun _ => .v _) ?_
      have hg : laws_eqDeed p0 p1 = false := by
        first | rfl | (simp only [laws_eqDeed, h1, h2, cond_true, cond_false, Step.fin_stop, Step.fin_done, Fin.get_fin, Fin.get_done, Step.fin_next, Bool.not_true, Bool.not_false, Option.getD_some]) | (simp [laws_eqDeed, h1, h2, cond_true, cond_false, Step.fin_stop, Step.fin_done, Fin.get_fin, Fin.get_done, Step.fin_next, Bool.not_true, Bool.not_false, Option.getD_some])
      exact congrArg (fun g : Bool => AV.one (.v (.bool g))) hg.symm
    · refine ⟨_, _, c_laws_eqSpan p0.S p1.S, (FzAs.same _), ?_⟩
      refine litE (m := 3) rfl ?_
      refine And.intro (fun (h3 : (!(laws_eqSpan p0.S p1.S)) = true) => ?_) (fun (h3 : (!(laws_eqSpan p0.S p1.S)) = false) => ?_)
      · refine And.intro (fun _ => .v _) ?_
        have hg : laws_eqDeed p0 p1 = false := by
          first | rfl | (simp only [laws_eqDeed, h1, h2, h3, cond_true, cond_false, Step.fin_stop, Step.fin_done, Fin.get_fin, Fin.get_done, Step.fin_next, Bool.not_true, Bool.not_false, Option.getD_some]) | (simp [laws_eqDeed, h1, h2, h3, cond_true, cond_false, Step.fin_stop, Step.fin_done, Fin.get_fin, Fin.get_done, Step.fin_next, Bool.not_true, Bool.not_false, Option.getD_some])
        exact congrArg (fun g : Bool => AV.one (.v (.bool g))) hg.symm
      · refine And.intro (fun (h4 : (p0.Trace != p1.Trace) = true) => ?_) (fun (h4 : (p0.Trace != p1.Trace) = false) => ?_)
        · refine And.intro (fun _ => .v _) ?_
          have hg : laws_eqDeed p0 p1 = false := by
            first | rfl | (simp only [laws_eqDeed, h1, h2, h3, h4, cond_true, cond_false, Step.fin_stop, Step.fin_done, Fin.get_fin, Fin.get_done, Step.fin_next, Bool.not_true, Bool.not_false, Option.getD_some]) | (simp [laws_eqDeed, h1, h2, h3, h4, cond_true, cond_false, Step.fin_stop, Step.fin_done, Fin.get_fin, Fin.get_done, Step.fin_next, Bool.not_true, Bool.not_false, Option.getD_some])
          exact congrArg (fun g : Bool => AV.one (.v (.bool g))) hg.symm
        · refine And.intro (fun (h5 : (p0.Stamp != p1.Stamp) = true) => ?_) (fun (h5 : (p0.Stamp != p1.Stamp) = false) => ?_)
          · refine And.intro (fun _ => .v _) ?_
            have hg : laws_eqDeed p0 p1 = false := by
              first | rfl | (simp only [laws_eqDeed, h1, h2, h3, h4, h5, cond_true, cond_false, Step.fin_stop, Step.fin_done, Fin.get_fin, Fin.get_done, Step.fin_next, Bool.not_true, Bool.not_false, Option.getD_some]) | (simp [laws_eqDeed, h1, h2, h3, h4, h5, cond_true, cond_false, Step.fin_stop, Step.fin_done, Fin.get_fin, Fin.get_done, Step.fin_next, Bool.not_true, Bool.not_false, Option.getD_some])
            exact congrArg (fun g : Bool => AV.one (.v (.bool g))) hg.symm
          · refine And.intro (fun (h6 : (p0.Code != p1.Code) = true) => ?_) (fun (h6 : (p0.Code != p1.Code) = false) => ?_)
            · refine And.intro (fun _ => .v _) ?_
              have hg : laws_eqDeed p0 p1 = false := by
                first | rfl | (simp only [laws_eqDeed, h1, h2, h3, h4, h5, h6, cond_true, cond_false, Step.fin_stop, Step.fin_done, Fin.get_fin, Fin.get_done, Step.fin_next, Bool.not_true, Bool.not_false, Option.getD_some]) | (simp [laws_eqDeed, h1, h2, h3, h4, h5, h6, cond_true, cond_false, Step.fin_stop, Step.fin_done, Fin.get_fin, Fin.get_done, Step.fin_next, Bool.not_true, Bool.not_false, Option.getD_some])
              exact congrArg (fun g : Bool => AV.one (.v (.bool g))) hg.symm
            · refine And.intro (fun (h7 : (!(p0.Keep == p1.Keep)) = true) => ?_) (fun (h7 : (!(p0.Keep == p1.Keep)) = false) => ?_)
              · refine And.intro (fun _ => .v _) ?_
                have hg : laws_eqDeed p0 p1 = false := by
                  first | rfl | (simp only [laws_eqDeed, h1, h2, h3, h4, h5, h6, h7, cond_true, cond_false, Step.fin_stop, Step.fin_done, Fin.get_fin, Fin.get_done, Step.fin_next, Bool.not_true, Bool.not_false, Option.getD_some]) | (simp [laws_eqDeed, h1, h2, h3, h4, h5, h6, h7, cond_true, cond_false, Step.fin_stop, Step.fin_done, Fin.get_fin, Fin.get_done, Step.fin_next, Bool.not_true, Bool.not_false, Option.getD_some])
                exact congrArg (fun g : Bool => AV.one (.v (.bool g))) hg.symm
              · refine And.intro (fun (h8 : (!(p0.Void == p1.Void)) = true) => ?_) (fun (h8 : (!(p0.Void == p1.Void)) = false) => ?_)
                · refine And.intro (fun _ => .v _) ?_
                  have hg : laws_eqDeed p0 p1 = false := by
                    first | rfl | (simp only [laws_eqDeed, h1, h2, h3, h4, h5, h6, h7, h8, cond_true, cond_false, Step.fin_stop, Step.fin_done, Fin.get_fin, Fin.get_done, Step.fin_next, Bool.not_true, Bool.not_false, Option.getD_some]) | (simp [laws_eqDeed, h1, h2, h3, h4, h5, h6, h7, h8, cond_true, cond_false, Step.fin_stop, Step.fin_done, Fin.get_fin, Fin.get_done, Step.fin_next, Bool.not_true, Bool.not_false, Option.getD_some])
                  exact congrArg (fun g : Bool => AV.one (.v (.bool g))) hg.symm
                · refine And.intro (fun (h9 : (p0.Took != p1.Took) = true) => ?_) (fun (h9 : (p0.Took != p1.Took) = false) => ?_)
                  · refine And.intro (fun _ => .v _) ?_
                    have hg : laws_eqDeed p0 p1 = false := by
                      first | rfl | (simp only [laws_eqDeed, h1, h2, h3, h4, h5, h6, h7, h8, h9, cond_true, cond_false, Step.fin_stop, Step.fin_done, Fin.get_fin, Fin.get_done, Step.fin_next, Bool.not_true, Bool.not_false, Option.getD_some]) | (simp [laws_eqDeed, h1, h2, h3, h4, h5, h6, h7, h8, h9, cond_true, cond_false, Step.fin_stop, Step.fin_done, Fin.get_fin, Fin.get_done, Step.fin_next, Bool.not_true, Bool.not_false, Option.getD_some])
                    exact congrArg (fun g : Bool => AV.one (.v (.bool g))) hg.symm
                  · refine And.intro (fun (h10 : (p0.N != p1.N) = true) => ?_) (fun (h10 : (p0.N != p1.N) = false) => ?_)
                    · refine And.intro (fun _ => .v _) ?_
                      have hg : laws_eqDeed p0 p1 = false := by
                        first | rfl | (simp only [laws_eqDeed, h1, h2, h3, h4, h5, h6, h7, h8, h9, h10, cond_true, cond_false, Step.fin_stop, Step.fin_done, Fin.get_fin, Fin.get_done, Step.fin_next, Bool.not_true, Bool.not_false, Option.getD_some]) | (simp [laws_eqDeed, h1, h2, h3, h4, h5, h6, h7, h8, h9, h10, cond_true, cond_false, Step.fin_stop, Step.fin_done, Fin.get_fin, Fin.get_done, Step.fin_next, Bool.not_true, Bool.not_false, Option.getD_some])
                      exact congrArg (fun g : Bool => AV.one (.v (.bool g))) hg.symm
                    · refine And.intro (fun (h11 : (p0.Forgot != p1.Forgot) = true) => ?_) (fun (h11 : (p0.Forgot != p1.Forgot) = false) => ?_)
                      · refine And.intro (fun _ => .v _) ?_
                        have hg : laws_eqDeed p0 p1 = false := by
                          first | rfl | (simp only [laws_eqDeed, h1, h2, h3, h4, h5, h6, h7, h8, h9, h10, h11, cond_true, cond_false, Step.fin_stop, Step.fin_done, Fin.get_fin, Fin.get_done, Step.fin_next, Bool.not_true, Bool.not_false, Option.getD_some]) | (simp [laws_eqDeed, h1, h2, h3, h4, h5, h6, h7, h8, h9, h10, h11, cond_true, cond_false, Step.fin_stop, Step.fin_done, Fin.get_fin, Fin.get_done, Step.fin_next, Bool.not_true, Bool.not_false, Option.getD_some])
                        exact congrArg (fun g : Bool => AV.one (.v (.bool g))) hg.symm
                      · refine And.intro (fun (h12 : (p0.Now != p1.Now) = true) => ?_) (fun (h12 : (p0.Now != p1.Now) = false) => ?_)
                        · refine And.intro (fun _ => .v _) ?_
                          have hg : laws_eqDeed p0 p1 = false := by
                            first | rfl | (simp only [laws_eqDeed, h1, h2, h3, h4, h5, h6, h7, h8, h9, h10, h11, h12, cond_true, cond_false, Step.fin_stop, Step.fin_done, Fin.get_fin, Fin.get_done, Step.fin_next, Bool.not_true, Bool.not_false, Option.getD_some]) | (simp [laws_eqDeed, h1, h2, h3, h4, h5, h6, h7, h8, h9, h10, h11, h12, cond_true, cond_false, Step.fin_stop, Step.fin_done, Fin.get_fin, Fin.get_done, Step.fin_next, Bool.not_true, Bool.not_false, Option.getD_some])
                          exact congrArg (fun g : Bool => AV.one (.v (.bool g))) hg.symm
                        · refine And.intro (fun (h13 : (p0.Inv != p1.Inv) = true) => ?_) (fun (h13 : (p0.Inv != p1.Inv) = false) => ?_)
                          · refine And.intro (fun _ => .v _) ?_
                            have hg : laws_eqDeed p0 p1 = false := by
                              first | rfl | (simp only [laws_eqDeed, h1, h2, h3, h4, h5, h6, h7, h8, h9, h10, h11, h12, h13, cond_true, cond_false, Step.fin_stop, Step.fin_done, Fin.get_fin, Fin.get_done, Step.fin_next, Bool.not_true, Bool.not_false, Option.getD_some]) | (simp [laws_eqDeed, h1, h2, h3, h4, h5, h6, h7, h8, h9, h10, h11, h12, h13, cond_true, cond_false, Step.fin_stop, Step.fin_done, Fin.get_fin, Fin.get_done, Step.fin_next, Bool.not_true, Bool.not_false, Option.getD_some])
                            exact congrArg (fun g : Bool => AV.one (.v (.bool g))) hg.symm
                          · refine And.intro (fun (h14 : (p0.Lin != p1.Lin) = true) => ?_) (fun (h14 : (p0.Lin != p1.Lin) = false) => ?_)
                            · refine And.intro (fun _ => .v _) ?_
                              have hg : laws_eqDeed p0 p1 = false := by
                                first | rfl | (simp only [laws_eqDeed, h1, h2, h3, h4, h5, h6, h7, h8, h9, h10, h11, h12, h13, h14, cond_true, cond_false, Step.fin_stop, Step.fin_done, Fin.get_fin, Fin.get_done, Step.fin_next, Bool.not_true, Bool.not_false, Option.getD_some]) | (simp [laws_eqDeed, h1, h2, h3, h4, h5, h6, h7, h8, h9, h10, h11, h12, h13, h14, cond_true, cond_false, Step.fin_stop, Step.fin_done, Fin.get_fin, Fin.get_done, Step.fin_next, Bool.not_true, Bool.not_false, Option.getD_some])
                              exact congrArg (fun g : Bool => AV.one (.v (.bool g))) hg.symm
                            · refine And.intro (fun (h15 : (p0.Res != p1.Res) = true) => ?_) (fun (h15 : (p0.Res != p1.Res) = false) => ?_)
                              · refine And.intro (fun _ => .v _) ?_
                                have hg : laws_eqDeed p0 p1 = false := by
                                  first | rfl | (simp only [laws_eqDeed, h1, h2, h3, h4, h5, h6, h7, h8, h9, h10, h11, h12, h13, h14, h15, cond_true, cond_false, Step.fin_stop, Step.fin_done, Fin.get_fin, Fin.get_done, Step.fin_next, Bool.not_true, Bool.not_false, Option.getD_some]) | (simp [laws_eqDeed, h1, h2, h3, h4, h5, h6, h7, h8, h9, h10, h11, h12, h13, h14, h15, cond_true, cond_false, Step.fin_stop, Step.fin_done, Fin.get_fin, Fin.get_done, Step.fin_next, Bool.not_true, Bool.not_false, Option.getD_some])
                                exact congrArg (fun g : Bool => AV.one (.v (.bool g))) hg.symm
                              · refine And.intro (fun _ => .v _) ?_
                                have hg : laws_eqDeed p0 p1 = true := by
                                  first | rfl | (simp only [laws_eqDeed, h1, h2, h3, h4, h5, h6, h7, h8, h9, h10, h11, h12, h13, h14, h15, cond_true, cond_false, Step.fin_stop, Step.fin_done, Fin.get_fin, Fin.get_done, Step.fin_next, Bool.not_true, Bool.not_false, Option.getD_some]) | (simp [laws_eqDeed, h1, h2, h3, h4, h5, h6, h7, h8, h9, h10, h11, h12, h13, h14, h15, cond_true, cond_false, Step.fin_stop, Step.fin_done, Fin.get_fin, Fin.get_done, Step.fin_next, Bool.not_true, Bool.not_false, Option.getD_some])
                                exact congrArg (fun g : Bool => AV.one (.v (.bool g))) hg.symm
theorem rf_laws_eqDeed (x : Deed) : laws_eqDeed x x = true := by
  simp [laws_eqDeed, rf_laws_eqAttr, rf_laws_eqAttrS, rf_laws_eqSpan]
def laws_FnExactDeedText (p0 : Deed) : Bool :=
  (bif (decide ((laws_szDeed p0 1048576) < 0)) then true else (bif (!decide ((impl_DeedText (laws_toDeed p0)) = (spec_DeedText (laws_toDeed p0)))) then false else (bif (!(laws_eqDeed (laws_toDeed p0) (laws_toDeed p0))) then false else true)))
theorem c_laws_FnExactDeedText (p0 : Deed) (hw0 : Deed.bd 9223372036854775807 p0) : FnOk prog 4 [.agg ((Deed.cells false) p0)] ⟨.one (.v (.bool (laws_FnExactDeedText p0))), [], [], false⟩ := by
  refine FnOk.intro (E := env) envOk wide func4 rfl (by kernel_rfl) rfl rfl ?_
  refine litE (m := 0) rfl ?_
  refine ⟨_, _, c_laws_szDeed p0 1048576, (FzAs.same _), ?_⟩
  refine litE (m := 2) rfl ?_
  refine And.intro (fun (h1 : (decide ((laws_szDeed p0 1048576) < 0)) = true) => ?_) (fun (h1 : (decide ((laws_szDeed p0 1048576) < 0)) = false) => ?_)
  · refine And.intro (fun _ => .v _) ?_
    have hg : laws_FnExactDeedText p0 = true := by
      first | rfl | (simp only [laws_FnExactDeedText, h1, cond_true, cond_false, Step.fin_stop, Step.fin_done, Fin.get_fin, Fin.get_done, Step.fin_next, Bool.not_true, Bool.not_false, Option.getD_some]) | (simp [laws_FnExactDeedText, h1, cond_true, cond_false, Step.fin_stop, Step.fin_done, Fin.get_fin, Fin.get_done, Step.fin_next, Bool.not_true, Bool.not_false, Option.getD_some])
    exact congrArg (fun g : Bool => AV.one (.v (.bool g))) hg.symm
  · have hz1 := szd_laws_szDeed p0 1048576 (by assumption) (by decide) (by decide) (by simpa using h1)
    have hs1 := hz1.1
    have hl1 : (laws_szDeed p0 1048576) ≤ 1048576 := Int.le_trans hz1.2 (by decide)
    refine ⟨_, _, c_laws_toDeed p0 (by assumption), (FzAs.same _), ?_⟩
    refine litE (m := 3) rfl ?_
    refine ⟨_, _, c_spec_DeedText (laws_toDeed p0), (FzAs.same _), ?_⟩
    refine litE (m := 5) rfl ?_
    refine ⟨_, _, c_laws_toDeed p0 (by assumption), (FzAs.same _), ?_⟩
    refine litE (m := 6) rfl ?_
    refine litE (m := 7) rfl ?_
    refine ⟨_, _, c_impl_DeedText (laws_toDeed p0), (FzAs.same _), ?_⟩
    refine litE (m := 9) rfl ?_
    refine And.intro (fun (h2 : (!decide ((impl_DeedText (laws_toDeed p0)) = (spec_DeedText (laws_toDeed p0)))) = true) => ?_) (fun (h2 : (!decide ((impl_DeedText (laws_toDeed p0)) = (spec_DeedText (laws_toDeed p0)))) = false) => ?_)
    · refine And.intro (fun _ => .v _) ?_
      have hg : laws_FnExactDeedText p0 = false := by
        first | rfl | (simp only [laws_FnExactDeedText, h1, h2, cond_true, cond_false, Step.fin_stop, Step.fin_done, Fin.get_fin, Fin.get_done, Step.fin_next, Bool.not_true, Bool.not_false, Option.getD_some]) | (simp [laws_FnExactDeedText, h1, h2, cond_true, cond_false, Step.fin_stop, Step.fin_done, Fin.get_fin, Fin.get_done, Step.fin_next, Bool.not_true, Bool.not_false, Option.getD_some])
      exact congrArg (fun g : Bool => AV.one (.v (.bool g))) hg.symm
    · refine .inr ⟨[0, 1, 2, 3, 4], by kernel_rfl, ?_⟩
      refine ⟨_, _, c_laws_toDeed p0 (by assumption), (FzAs.same _), ?_⟩
      refine litE (m := 10) rfl ?_
      refine ⟨_, _, c_laws_eqDeed (laws_toDeed p0) (laws_toDeed p0), (FzAs.same _), ?_⟩
      refine litE (m := 12) rfl ?_
      refine And.intro (fun (h3 : (!(laws_eqDeed (laws_toDeed p0) (laws_toDeed p0))) = true) => ?_) (fun (h3 : (!(laws_eqDeed (laws_toDeed p0) (laws_toDeed p0))) = false) => ?_)
      · refine And.intro (fun _ => .v _) ?_
        have hg : laws_FnExactDeedText p0 = false := by
          first | rfl | (simp only [laws_FnExactDeedText, h1, h2, h3, cond_true, cond_false, Step.fin_stop, Step.fin_done, Fin.get_fin, Fin.get_done, Step.fin_next, Bool.not_true, Bool.not_false, Option.getD_some]) | (simp [laws_FnExactDeedText, h1, h2, h3, cond_true, cond_false, Step.fin_stop, Step.fin_done, Fin.get_fin, Fin.get_done, Step.fin_next, Bool.not_true, Bool.not_false, Option.getD_some])
        exact congrArg (fun g : Bool => AV.one (.v (.bool g))) hg.symm
      · refine And.intro (fun _ => .v _) ?_
        have hg : laws_FnExactDeedText p0 = true := by
          first | rfl | (simp only [laws_FnExactDeedText, h1, h2, h3, cond_true, cond_false, Step.fin_stop, Step.fin_done, Fin.get_fin, Fin.get_done, Step.fin_next, Bool.not_true, Bool.not_false, Option.getD_some]) | (simp [laws_FnExactDeedText, h1, h2, h3, cond_true, cond_false, Step.fin_stop, Step.fin_done, Fin.get_fin, Fin.get_done, Step.fin_next, Bool.not_true, Bool.not_false, Option.getD_some])
        exact congrArg (fun g : Bool => AV.one (.v (.bool g))) hg.symm
theorem law_DeedText (p0 : Deed) (hr : Deed.rg p0) : laws_FnExactDeedText p0 = true := by
  have e : impl_DeedText p0 = spec_DeedText p0 := by
    unfold impl_DeedText spec_DeedText
    rw [main_NumText hr.Trace, main_NumText hr.N, main_SpanText hr.S, main_CodeName]
    simp only [bne, Bool.not_not, impl_NumText]
    cases (p0.Op == 1) <;> cases (p0.Op == 2) <;> cases (p0.Op == 3) <;> cases (p0.Op == 4) <;> cases (p0.Lin == (-1)) <;> cases p0.Void <;> cases p0.Keep <;> simp [ByteArray.append_assoc] <;> rfl
  unfold laws_FnExactDeedText
  cases decide (laws_szDeed p0 1048576 < 0) with
  | true => rfl
  | false => simp only [cond_false, id_laws_toDeed, e, rf_laws_eqDeed, decide_true, Bool.not_true]
theorem rows_sl {α : Type} (f : α → List T) (W : α → Prop) : ∀ rows : List (List T), (∀ r ∈ rows, ∃ x, r = f x ∧ W x) → ∃ l : List α, rows = l.map f ∧ ∀ x ∈ l, W x
  | [], _ => ⟨[], rfl, by simp⟩
  | r :: rows, h => by
    obtain ⟨x, hx, hw⟩ := h r (by simp)
    obtain ⟨l, hl, hw'⟩ := rows_sl f W rows (fun r hr => h r (by simp [hr]))
    exact ⟨x :: l, by simp [hx, hl], fun y hy => by rcases List.mem_cons.1 hy with rfl | hy; exact hw; exact hw' y hy⟩
theorem shape_sl {α : Type} (f : α → List T) {P : Nat → α → Prop} (W : α → Prop) (hW : W = P 9223372036854775807) {n t e k : Nat} (ht : prog.underlying t = some (.slice e)) (hk : prog.cellsOf e = k) {y : List T} (h : Shape prog (n + 1) t y) (hr : ∀ r, Shape prog n e r → ∃ x, r = f x ∧ W x) :
    ∃ l : List α, y = [.s false k (l.map f)] ∧ bdS P 9223372036854775807 l := by
  subst hW
  unfold Shape at h
  rw [ht] at h
  obtain ⟨rows, h1, h2, h3⟩ := h
  rw [hk] at h1
  obtain ⟨l, rfl, hw⟩ := rows_sl f _ rows (fun r hr' => hr r (h3 r hr').2)
  exact ⟨l, h1, by simpa [maxLen] using h2, hw⟩
theorem shape3 (n : Nat) {l : List T} (h : Shape prog n 3 l) : ∃ x : Int, l = [.v (.int .i64 x)] ∧ True := by
  cases n with
  | zero => exact (h : False).elim
  | succ n =>
    simp only [Shape, underlying3] at h
    obtain ⟨x, hx, _⟩ := h
    exact ⟨x, hx, trivial⟩
theorem shape4 (n : Nat) {l : List T} (h : Shape prog n 4 l) : ∃ x : Bool, l = [.v (.bool x)] ∧ True := by
  cases n with
  | zero => exact (h : False).elim
  | succ n =>
    simp only [Shape, underlying4] at h
    obtain ⟨x, hx⟩ := h
    exact ⟨x, hx, trivial⟩
theorem shape9 (n : Nat) {l : List T} (h : Shape prog n 9 l) : ∃ x : ByteArray, l = [.v (.string x)] ∧ (x).size ≤ 9223372036854775807 := by
  cases n with
  | zero => exact (h : False).elim
  | succ n =>
    simp only [Shape, underlying9] at h
    obtain ⟨x, hx, hw⟩ := h
    exact ⟨x, hx, by simpa [maxLen] using hw⟩
theorem shape62 (n : Nat) {l : List T} (h : Shape prog n 62 l) : ∃ x : Attr, l = Attr.cells x ∧ Attr.bd 9223372036854775807 x := by
  cases n with
  | zero => exact (h : False).elim
  | succ n =>
    unfold Shape at h
    rw [underlying62] at h
    simp only [ShapeL] at h
    obtain ⟨_, _, rfl, h0, _, _, rfl, h1, _, _, rfl, h2, _, _, rfl, h3, rfl⟩ := h
    obtain ⟨x0, rfl, w0⟩ := shape9 n h0
    obtain ⟨x1, rfl, w1⟩ := shape4 n h1
    obtain ⟨x2, rfl, w2⟩ := shape3 n h2
    obtain ⟨x3, rfl, w3⟩ := shape9 n h3
    exact ⟨⟨x0, x1, x2, x3⟩, rfl, ⟨w0, w3⟩⟩
theorem shape22 (n : Nat) {l : List T} (h : Shape prog n 22 l) : ∃ x : (List Attr), l = [.s false 4 (List.map Attr.cells x)] ∧ bdS Attr.bd 9223372036854775807 x := by
  cases n with
  | zero => exact (h : False).elim
  | succ n =>
    exact shape_sl Attr.cells (P := Attr.bd) _ rfl underlying22 (by kernel_rfl) h (fun r hr => shape62 n hr)
theorem shape24 (n : Nat) {l : List T} (h : Shape prog n 24 l) : ∃ x : Span, l = (Span.cells false) x ∧ Span.bd 9223372036854775807 x := by
  cases n with
  | zero => exact (h : False).elim
  | succ n =>
    unfold Shape at h
    rw [underlying24] at h
    simp only [ShapeL] at h
    obtain ⟨_, _, rfl, h0, _, _, rfl, h1, _, _, rfl, h2, _, _, rfl, h3, _, _, rfl, h4, _, _, rfl, h5, rfl⟩ := h
    obtain ⟨x0, rfl, w0⟩ := shape3 n h0
    obtain ⟨x1, rfl, w1⟩ := shape3 n h1
    obtain ⟨x2, rfl, w2⟩ := shape3 n h2
    obtain ⟨x3, rfl, w3⟩ := shape3 n h3
    obtain ⟨x4, rfl, w4⟩ := shape4 n h4
    obtain ⟨x5, rfl, w5⟩ := shape22 n h5
    exact ⟨⟨x0, x1, x2, x3, x4, x5⟩, rfl, w5⟩
theorem shape38 (n : Nat) {l : List T} (h : Shape prog n 38 l) : ∃ x : Deed, l = (Deed.cells false) x ∧ Deed.bd 9223372036854775807 x := by
  cases n with
  | zero => exact (h : False).elim
  | succ n =>
    unfold Shape at h
    rw [underlying38] at h
    simp only [ShapeL] at h
    obtain ⟨_, _, rfl, h0, _, _, rfl, h1, _, _, rfl, h2, _, _, rfl, h3, _, _, rfl, h4, _, _, rfl, h5, _, _, rfl, h6, _, _, rfl, h7, _, _, rfl, h8, _, _, rfl, h9, _, _, rfl, h10, _, _, rfl, h11, _, _, rfl, h12, _, _, rfl, h13, _, _, rfl, h14, rfl⟩ := h
    obtain ⟨x0, rfl, w0⟩ := shape3 n h0
    obtain ⟨x1, rfl, w1⟩ := shape3 n h1
    obtain ⟨x2, rfl, w2⟩ := shape24 n h2
    obtain ⟨x3, rfl, w3⟩ := shape3 n h3
    obtain ⟨x4, rfl, w4⟩ := shape3 n h4
    obtain ⟨x5, rfl, w5⟩ := shape3 n h5
    obtain ⟨x6, rfl, w6⟩ := shape4 n h6
    obtain ⟨x7, rfl, w7⟩ := shape4 n h7
    obtain ⟨x8, rfl, w8⟩ := shape3 n h8
    obtain ⟨x9, rfl, w9⟩ := shape3 n h9
    obtain ⟨x10, rfl, w10⟩ := shape3 n h10
    obtain ⟨x11, rfl, w11⟩ := shape3 n h11
    obtain ⟨x12, rfl, w12⟩ := shape3 n h12
    obtain ⟨x13, rfl, w13⟩ := shape3 n h13
    obtain ⟨x14, rfl, w14⟩ := shape3 n h14
    exact ⟨⟨x0, x1, x2, x3, x4, x5, x6, x7, x8, x9, x10, x11, x12, x13, x14⟩, rfl, w2⟩
theorem arg38 {n : Nat} {l : List T} (h : Shape prog n 38 l) : ∃ x : Deed, l = (Deed.cells false) x ∧ Deed.bd 9223372036854775807 x := shape38 n h
theorem law_c (p0 : Deed) (h0 : Deed.bd 9223372036854775807 p0) : FnOk prog 4 [.agg ((Deed.cells false) p0)] ⟨.one (.v (.bool true)), [], [], false⟩ :=
  FnOk.fits ⟨_, func4, by kernel_rfl, by kernel_rfl⟩ (fun hf => by
    have h := c_laws_FnExactDeedText p0 h0
    rw [law_DeedText p0 (rg_Deed hf.1)] at h
    exact h)
end Go.Proofs.Tryd.Ev
