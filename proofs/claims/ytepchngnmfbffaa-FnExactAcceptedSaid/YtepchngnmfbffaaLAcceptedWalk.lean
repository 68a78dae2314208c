import Derived.Test.YtepchngnmfbffaaLTabsW
import Derived.Test.YtepchngnmfbffaaEvMk
import Derived.Test.YtepchngnmfbffaaEvS
set_option linter.unusedSectionVars false
namespace Go.Proofs.Try.Ev
open Go Go.Ev Go.Proofs
set_option maxHeartbeats 4000000
set_option maxRecDepth 100000
set_option linter.unusedSimpArgs false
set_option linter.unusedVariables false
set_option linter.unusedSectionVars false
structure Attr where
  Key : ByteArray
  Num : Bool
  N : Int
  Text : ByteArray
deriving DecidableEq, Inhabited
def Attr.cells (x : Attr) : List T := [.v (.string x.Key), .v (.bool x.Num), .v (.int .i64 x.N), .v (.string x.Text)]
theorem own_Attr (x : Attr) : OwnL (Attr.cells x) := ⟨.v _, .v _, .v _, .v _, trivial⟩
theorem frz_Attr (x : Attr) : frzL (Attr.cells x) = Attr.cells x := rfl
theorem fz_Attr (x : Attr) : (Attr.cells x).map T.fz = Attr.cells x := rfl
theorem fl_Attr (x : Attr) : (Attr.cells x).map T.flat = Attr.cells x := rfl
def Attr.bd (M : Nat) (x : Attr) : Prop := x.Key.size ≤ M ∧ x.Text.size ≤ M
def Attr.rg (x : Attr) : Prop := (x.Key).size ≤ 9223372036854775807 ∧ True ∧ I64 x.N ∧ (x.Text).size ≤ 9223372036854775807 ∧ True
theorem rg_Attr {x : Attr} (h : fitL (Attr.cells x)) : Attr.rg x := ⟨(Nat.le_of_ble_eq_true h.1), trivial, (range_of_fit h.2.2.1), (Nat.le_of_ble_eq_true h.2.2.2.1), trivial⟩
theorem Attr.rg.Key {x : Attr} (h : Attr.rg x) : (x.Key).size ≤ 9223372036854775807 := h.1
theorem Attr.rg.N {x : Attr} (h : Attr.rg x) : I64 x.N := h.2.2.1
theorem Attr.rg.Text {x : Attr} (h : Attr.rg x) : (x.Text).size ≤ 9223372036854775807 := h.2.2.2.1
structure Span where
  Trace : Int
  Id : Int
  Start : Int
  End : Int
  Err : Bool
  Attrs : (List Attr)
deriving DecidableEq, Inhabited
def Span.cells (o : Bool) (x : Span) : List T := [.v (.int .i64 x.Trace), .v (.int .i64 x.Id), .v (.int .i64 x.Start), .v (.int .i64 x.End), .v (.bool x.Err), .s o 4 (List.map Attr.cells x.Attrs)]
theorem own_Span (x : Span) : OwnL (Span.cells true x) := ⟨.v _, .v _, .v _, .v _, .v _, ownSl own_Attr _, trivial⟩
theorem frz_Span {o : Bool} (x : Span) : frzL (Span.cells o x) = Span.cells false x := by
  show [T.v (.int .i64 x.Trace), T.v (.int .i64 x.Id), T.v (.int .i64 x.Start), T.v (.int .i64 x.End), T.v (.bool x.Err), T.s false 4 (frzLL (List.map Attr.cells x.Attrs))] = _
  rw [frzMap (f := Attr.cells) (g := Attr.cells) frz_Attr x.Attrs]
  rfl
theorem sh_Span (x : Span) : (Span.cells false x).map T.sh = Span.cells false x := rfl
theorem fz_Span {o : Bool} (x : Span) : (Span.cells o x).map T.fz = Span.cells false x := by
  show [T.v (.int .i64 x.Trace), T.v (.int .i64 x.Id), T.v (.int .i64 x.Start), T.v (.int .i64 x.End), T.v (.bool x.Err), T.s false 4 (frzLL (List.map Attr.cells x.Attrs))] = _
  rw [frzMap (f := Attr.cells) (g := Attr.cells) frz_Attr x.Attrs]
  rfl
def Span.bd (M : Nat) (x : Span) : Prop := bdS Attr.bd M x.Attrs
def Span.rg (x : Span) : Prop := I64 x.Trace ∧ I64 x.Id ∧ I64 x.Start ∧ I64 x.End ∧ True ∧ ((x.Attrs).length ≤ 9223372036854775807 ∧ ∀ y ∈ x.Attrs, Attr.rg y) ∧ True
theorem rg_Span {o : Bool} {x : Span} (h : fitL (Span.cells o x)) : Span.rg x := ⟨(range_of_fit h.1), (range_of_fit h.2.1), (range_of_fit h.2.2.1), (range_of_fit h.2.2.2.1), trivial, ⟨by simpa using h.2.2.2.2.2.1.1, fun y0 hy0 => (rg_Attr (fitLL_map h.2.2.2.2.2.1.2 y0 hy0))⟩, trivial⟩
theorem Span.rg.Trace {x : Span} (h : Span.rg x) : I64 x.Trace := h.1
theorem Span.rg.Id {x : Span} (h : Span.rg x) : I64 x.Id := h.2.1
theorem Span.rg.Start {x : Span} (h : Span.rg x) : I64 x.Start := h.2.2.1
theorem Span.rg.End {x : Span} (h : Span.rg x) : I64 x.End := h.2.2.2.1
theorem Span.rg.Attrs {x : Span} (h : Span.rg x) : ((x.Attrs).length ≤ 9223372036854775807 ∧ ∀ y ∈ x.Attrs, Attr.rg y) := h.2.2.2.2.2.1
structure Deed where
  Op : Int
  Task : Int
  S : Span
  Trace : Int
  Stamp : Int
  Code : Int
  Keep : Bool
  Void : Bool
  Took : Int
  N : Int
  Forgot : Int
  Now : Int
  Inv : Int
  Lin : Int
  Res : Int
deriving DecidableEq, Inhabited
def Deed.cells (o : Bool) (x : Deed) : List T := [.v (.int .i64 x.Op), .v (.int .i64 x.Task), .v (.int .i64 x.S.Trace), .v (.int .i64 x.S.Id), .v (.int .i64 x.S.Start), .v (.int .i64 x.S.End), .v (.bool x.S.Err), .s o 4 (List.map Attr.cells x.S.Attrs), .v (.int .i64 x.Trace), .v (.int .i64 x.Stamp), .v (.int .i64 x.Code), .v (.bool x.Keep), .v (.bool x.Void), .v (.int .i64 x.Took), .v (.int .i64 x.N), .v (.int .i64 x.Forgot), .v (.int .i64 x.Now), .v (.int .i64 x.Inv), .v (.int .i64 x.Lin), .v (.int .i64 x.Res)]
theorem own_Deed (x : Deed) : OwnL (Deed.cells true x) := ⟨.v _, .v _, .v _, .v _, .v _, .v _, .v _, ownSl own_Attr _, .v _, .v _, .v _, .v _, .v _, .v _, .v _, .v _, .v _, .v _, .v _, .v _, trivial⟩
theorem frz_Deed {o : Bool} (x : Deed) : frzL (Deed.cells o x) = Deed.cells false x := by
  show [T.v (.int .i64 x.Op), T.v (.int .i64 x.Task), T.v (.int .i64 x.S.Trace), T.v (.int .i64 x.S.Id), T.v (.int .i64 x.S.Start), T.v (.int .i64 x.S.End), T.v (.bool x.S.Err), T.s false 4 (frzLL (List.map Attr.cells x.S.Attrs)), T.v (.int .i64 x.Trace), T.v (.int .i64 x.Stamp), T.v (.int .i64 x.Code), T.v (.bool x.Keep), T.v (.bool x.Void), T.v (.int .i64 x.Took), T.v (.int .i64 x.N), T.v (.int .i64 x.Forgot), T.v (.int .i64 x.Now), T.v (.int .i64 x.Inv), T.v (.int .i64 x.Lin), T.v (.int .i64 x.Res)] = _
  rw [frzMap (f := Attr.cells) (g := Attr.cells) frz_Attr x.S.Attrs]
  rfl
theorem sh_Deed (x : Deed) : (Deed.cells false x).map T.sh = Deed.cells false x := rfl
theorem fz_Deed {o : Bool} (x : Deed) : (Deed.cells o x).map T.fz = Deed.cells false x := by
  show [T.v (.int .i64 x.Op), T.v (.int .i64 x.Task), T.v (.int .i64 x.S.Trace), T.v (.int .i64 x.S.Id), T.v (.int .i64 x.S.Start), T.v (.int .i64 x.S.End), T.v (.bool x.S.Err), T.s false 4 (frzLL (List.map Attr.cells x.S.Attrs)), T.v (.int .i64 x.Trace), T.v (.int .i64 x.Stamp), T.v (.int .i64 x.Code), T.v (.bool x.Keep), T.v (.bool x.Void), T.v (.int .i64 x.Took), T.v (.int .i64 x.N), T.v (.int .i64 x.Forgot), T.v (.int .i64 x.Now), T.v (.int .i64 x.Inv), T.v (.int .i64 x.Lin), T.v (.int .i64 x.Res)] = _
  rw [frzMap (f := Attr.cells) (g := Attr.cells) frz_Attr x.S.Attrs]
  rfl
def Deed.bd (M : Nat) (x : Deed) : Prop := Span.bd M x.S
def Deed.rg (x : Deed) : Prop := I64 x.Op ∧ I64 x.Task ∧ I64 x.S.Trace ∧ I64 x.S.Id ∧ I64 x.S.Start ∧ I64 x.S.End ∧ True ∧ ((x.S.Attrs).length ≤ 9223372036854775807 ∧ ∀ y ∈ x.S.Attrs, Attr.rg y) ∧ I64 x.Trace ∧ I64 x.Stamp ∧ I64 x.Code ∧ True ∧ True ∧ I64 x.Took ∧ I64 x.N ∧ I64 x.Forgot ∧ I64 x.Now ∧ I64 x.Inv ∧ I64 x.Lin ∧ I64 x.Res ∧ True
theorem rg_Deed {o : Bool} {x : Deed} (h : fitL (Deed.cells o x)) : Deed.rg x := ⟨(range_of_fit h.1), (range_of_fit h.2.1), (range_of_fit h.2.2.1), (range_of_fit h.2.2.2.1), (range_of_fit h.2.2.2.2.1), (range_of_fit h.2.2.2.2.2.1), trivial, ⟨by simpa using h.2.2.2.2.2.2.2.1.1, fun y0 hy0 => (rg_Attr (fitLL_map h.2.2.2.2.2.2.2.1.2 y0 hy0))⟩, (range_of_fit h.2.2.2.2.2.2.2.2.1), (range_of_fit h.2.2.2.2.2.2.2.2.2.1), (range_of_fit h.2.2.2.2.2.2.2.2.2.2.1), trivial, trivial, (range_of_fit h.2.2.2.2.2.2.2.2.2.2.2.2.2.1), (range_of_fit h.2.2.2.2.2.2.2.2.2.2.2.2.2.2.1), (range_of_fit h.2.2.2.2.2.2.2.2.2.2.2.2.2.2.2.1), (range_of_fit h.2.2.2.2.2.2.2.2.2.2.2.2.2.2.2.2.1), (range_of_fit h.2.2.2.2.2.2.2.2.2.2.2.2.2.2.2.2.2.1), (range_of_fit h.2.2.2.2.2.2.2.2.2.2.2.2.2.2.2.2.2.2.1), (range_of_fit h.2.2.2.2.2.2.2.2.2.2.2.2.2.2.2.2.2.2.2.1), trivial⟩
theorem Deed.rg.Op {x : Deed} (h : Deed.rg x) : I64 x.Op := h.1
theorem Deed.rg.Task {x : Deed} (h : Deed.rg x) : I64 x.Task := h.2.1
theorem Deed.rg.S {x : Deed} (h : Deed.rg x) : Span.rg x.S := ⟨h.2.2.1, h.2.2.2.1, h.2.2.2.2.1, h.2.2.2.2.2.1, h.2.2.2.2.2.2.1, h.2.2.2.2.2.2.2.1, trivial⟩
theorem Deed.rg.Trace {x : Deed} (h : Deed.rg x) : I64 x.Trace := h.2.2.2.2.2.2.2.2.1
theorem Deed.rg.Stamp {x : Deed} (h : Deed.rg x) : I64 x.Stamp := h.2.2.2.2.2.2.2.2.2.1
theorem Deed.rg.Code {x : Deed} (h : Deed.rg x) : I64 x.Code := h.2.2.2.2.2.2.2.2.2.2.1
theorem Deed.rg.Took {x : Deed} (h : Deed.rg x) : I64 x.Took := h.2.2.2.2.2.2.2.2.2.2.2.2.2.1
theorem Deed.rg.N {x : Deed} (h : Deed.rg x) : I64 x.N := h.2.2.2.2.2.2.2.2.2.2.2.2.2.2.1
theorem Deed.rg.Forgot {x : Deed} (h : Deed.rg x) : I64 x.Forgot := h.2.2.2.2.2.2.2.2.2.2.2.2.2.2.2.1
theorem Deed.rg.Now {x : Deed} (h : Deed.rg x) : I64 x.Now := h.2.2.2.2.2.2.2.2.2.2.2.2.2.2.2.2.1
theorem Deed.rg.Inv {x : Deed} (h : Deed.rg x) : I64 x.Inv := h.2.2.2.2.2.2.2.2.2.2.2.2.2.2.2.2.2.1
theorem Deed.rg.Lin {x : Deed} (h : Deed.rg x) : I64 x.Lin := h.2.2.2.2.2.2.2.2.2.2.2.2.2.2.2.2.2.2.1
theorem Deed.rg.Res {x : Deed} (h : Deed.rg x) : I64 x.Res := h.2.2.2.2.2.2.2.2.2.2.2.2.2.2.2.2.2.2.2.1
theorem wrapD (n : Int) : IntKind.i64.wrap n = if 9223372036854775808 ≤ n % 18446744073709551616 then n % 18446744073709551616 - 18446744073709551616 else n % 18446744073709551616 := by
  simp [IntKind.wrap, IntKind.bits, IntKind.signed]
theorem wrap_wrap_add (a b : Int) : IntKind.i64.wrap (IntKind.i64.wrap a + b) = IntKind.i64.wrap (a + b) := by
  rw [wrapD, wrapD, wrapD]
  split <;> split <;> split <;> omega
theorem wrap_add_wrap (a b : Int) : IntKind.i64.wrap (a + IntKind.i64.wrap b) = IntKind.i64.wrap (a + b) := by
  rw [Int.add_comm, wrap_wrap_add, Int.add_comm]
theorem wrap_idem (a : Int) : IntKind.i64.wrap (IntKind.i64.wrap a) = IntKind.i64.wrap a := by
  have := wrap_wrap_add a 0
  simpa using this
def isum {α : Type} (f : α → Int) : List α → Int
  | [] => 0
  | a :: l => f a + isum f l
theorem isum_append {α : Type} (f : α → Int) : ∀ (l m : List α), isum f (l ++ m) = isum f l + isum f m
  | [], m => by simp [isum]
  | a :: l, m => by simp only [List.cons_append, isum, isum_append f l m]; omega
theorem isum_flat {α β : Type} (f : β → Int) (g : α → List β) : ∀ l : List α, isum f (l.flatMap g) = isum (fun a => isum f (g a)) l
  | [] => rfl
  | a :: l => by rw [List.flatMap_cons, isum_append, isum, isum_flat f g l]
theorem sum_loop {α ρ : Type} {f : α → Int} {b : Nat → Int → α → Step Int ρ} : ∀ (l : List α) (i : Nat) (s : Int), IntKind.i64.wrap s = s → (∀ i s, ∀ a ∈ l, IntKind.i64.wrap s = s → b i s a = .next (IntKind.i64.wrap (s + f a))) → loopL b i s l = .fin (IntKind.i64.wrap (s + isum f l))
  | [], i, s, hs, hb => by simp [loopL, isum, hs]
  | a :: l, i, s, hs, hb => by
    unfold loopL
    rw [hb i s a (by simp) hs]
    simp only
    rw [sum_loop l (i + 1) _ (wrap_idem _) (fun i s x hx => hb i s x (by simp [hx])), wrap_wrap_add, isum, Int.add_assoc]
theorem app_loop {α β ρ : Type} {f : α → List β} {b : Nat → List β → α → Step (List β) ρ} (hb : ∀ i s a, b i s a = .next (s ++ f a)) : ∀ (l : List α) (i : Nat) (s : List β), loopL b i s l = .fin (s ++ l.flatMap f)
  | [], i, s => by simp [loopL]
  | a :: l, i, s => by
    unfold loopL
    rw [hb]
    simp only
    rw [app_loop hb l (i + 1), List.flatMap_cons, List.append_assoc]
theorem wrap_len {n : Nat} (h : n ≤ 9223372036854775807) : IntKind.i64.wrap ((n : Nat) : Int) = ((n : Nat) : Int) := Go.Ev.wrap_small (by omega) (by omega)
def ntInv (s : ByteArray × Int) : Prop := (s.1.size = 0 ∧ s.2.natAbs ≤ 9223372036854775808) ∨ s.1.size + s.2.natAbs ≤ 4611686018427387904
def ntM (s : ByteArray × Int) : Nat := s.2.natAbs
theorem size_str1 (c : Int) : (strOfNums [c]).size = 1 := rfl
theorem nt_abs {x : Int} (h : x.natAbs ≤ 9223372036854775808) : (IntKind.i64.wrap (x.tdiv 10)).natAbs = x.natAbs / 10 := by
  have e : (x.tdiv 10).natAbs = x.natAbs / 10 := by rw [Int.natAbs_tdiv]; rfl
  generalize x.tdiv 10 = q at e ⊢
  have hq : q.natAbs ≤ 922337203685477580 := by omega
  have hq1 : -9223372036854775808 ≤ q := by clear e; omega
  have hq2 : q ≤ 9223372036854775807 := by clear e; omega
  rw [Go.Ev.wrap_small hq1 hq2, e]
theorem nt_step {s : ByteArray} {x c : Int} (h : ntInv (s, x)) (hx : x ≠ 0) : ntInv (strOfNums [c] ++ s, IntKind.i64.wrap (x.tdiv 10)) ∧ ntM (strOfNums [c] ++ s, IntKind.i64.wrap (x.tdiv 10)) < ntM (s, x) := by
  unfold ntInv ntM at *
  simp only at h ⊢
  rw [nt_abs (by omega), ByteArray.size_append, size_str1]
  omega
theorem nt_cat {s : ByteArray} {x c : Int} (h : ntInv (s, x)) (hx : (x != 0) = true) : (((strOfNums [c]).size + s.size : Nat) : Int) ≤ 9223372036854775807 := by
  unfold ntInv at h
  simp only [bne_iff_ne] at h hx
  rw [size_str1]
  omega
theorem nt_cat2 {s : ByteArray} {x : Int} {b : UInt8} (h : ntInv (s, x)) : (((ByteArray.mk #[b]).size + s.size : Nat) : Int) ≤ 9223372036854775807 := by
  unfold ntInv at h
  simp only at h
  have : (ByteArray.mk #[b]).size = 1 := rfl
  omega
def mtInv (s : Int × ByteArray) : Prop := ntInv (s.2, s.1)
def mtM (s : Int × ByteArray) : Nat := ntM (s.2, s.1)
theorem mt_ne {x : Int} (h : decide (x > 0) = true) : x ≠ 0 := by have : x > 0 := by simpa using h
                                                                  omega
theorem mt_step {s : Int × ByteArray} {c : Int} (h : mtInv s) (hx : decide (s.1 > 0) = true) : mtInv (IntKind.i64.wrap (s.1.tdiv 10), strOfNums [c] ++ s.2) ∧ mtM (IntKind.i64.wrap (s.1.tdiv 10), strOfNums [c] ++ s.2) < mtM s := nt_step h (mt_ne hx)
theorem mt_cat {s : Int × ByteArray} {c : Int} (h : mtInv s) (hx : decide (s.1 > 0) = true) : (((strOfNums [c]).size + s.2.size : Nat) : Int) ≤ 9223372036854775807 := nt_cat h (by simpa using mt_ne hx)
theorem mt_cat2 {s : Int × ByteArray} {b : UInt8} (h : mtInv s) : (((ByteArray.mk #[b]).size + s.2.size : Nat) : Int) ≤ 9223372036854775807 := nt_cat2 h
def laws_markText_b1 (s1 : Int × ByteArray) : Step (Int × ByteArray) ByteArray :=
  (bif (decide (s1.1 > 0)) then (.next ((IntKind.i64.wrap (Int.tdiv s1.1 10)), ((strOfNums [(IntKind.u8.wrap (IntKind.i64.wrap (48 + (Int.tmod s1.1 10))))]) ++ s1.2))) else (.stop (s1.1, s1.2)))
def laws_markText (p0 : Int) : ByteArray :=
  (bif (decide (p0 ≤ 0)) then (ByteArray.mk #[109, 48]) else (Fin.get (fun s1 => ((ByteArray.mk #[109]) ++ s1.2)) (loopW laws_markText_b1 (mtM (p0, (ByteArray.mk #[]))) (p0, (ByteArray.mk #[])))))
theorem cr_laws_markText (p0 : Int) (hr0 : I64 p0) : FnOk prog 174 [.one (.v (.int .i64 p0))] ⟨.one (.v (.string (laws_markText p0))), [], [], false⟩ := by
  refine FnOk.intro (E := env) envOk wide func174 rfl (by kernel_rfl) rfl rfl ?_
  have hg := laws_markText.eq_1 p0
  have hown : ∀ g : ByteArray, AV.Own (AV.one (.v (.string g))) := fun g => .v _
  refine seqE ?_
  refine seqE ?_
  refine seqE ?_
  refine brD hg (fun hg h1 => ?_) (fun hg h1 => ?_)
  · refine seqE ?_
    exact leafE hown hg
  · refine seqE ?_
    refine seqE ?_
    refine loopWE (m := mtM) (s0 := (p0, (ByteArray.mk #[]))) mtInv hg (by left; have := hr0.1; have := hr0.2; exact ⟨rfl, by show Int.natAbs p0 ≤ _; omega⟩) [] (fun x1 => [(0, .one (.v (.int .i64 x1.s.1))), (3, .one (.v (.string x1.s.2)))]) (fun x1 => []) [] ?_ (fun x1 => ?_)
    · exact ⟨rfl, ⟨rfl, rfl, trivial⟩, trivial, trivial⟩
    have hI1 := x1.hI
    try dsimp only at hI1
    have hb1 := x1.bdy.trans (laws_markText_b1.eq_1 ..)
    refine seqE ?_
    refine seqE ?_
    refine brD hb1 (fun hb1 h2 => ?_) (fun hb1 h2 => ?_)
    · refine seqE ?_
      refine andE (by (first | omega | (simp (disch := omega) only [wrap_small, mid_eq, List.length_map]; omega) | (simp; done) | (simp; omega) | (simp at *; omega) | (simp at *; done) | (simp_all; done) | (simp_all; omega))) ?_
      refine litE (m := 0) rfl ?_
      refine andE (by first | exact mt_cat x1.hI (by assumption) | exact mt_cat2 x1.hI) ?_
      refine andE (by (first | omega | (simp (disch := omega) only [wrap_small, mid_eq, List.length_map]; omega) | (simp; done) | (simp; omega) | (simp at *; omega) | (simp at *; done) | (simp_all; done) | (simp_all; omega))) ?_
      exact x1.goE hb1 (show mtInv ((IntKind.i64.wrap (Int.tdiv x1.s.1 10)), ((strOfNums [(IntKind.u8.wrap (IntKind.i64.wrap (48 + (Int.tmod x1.s.1 10))))]) ++ x1.s.2)) ∧ mtM ((IntKind.i64.wrap (Int.tdiv x1.s.1 10)), ((strOfNums [(IntKind.u8.wrap (IntKind.i64.wrap (48 + (Int.tmod x1.s.1 10))))]) ++ x1.s.2)) < mtM x1.s by exact mt_step x1.hI (by first | assumption | (simpa using h3) | (simpa using h2))) [] ⟨rfl, ⟨rfl, rfl, trivial⟩, trivial, trivial⟩
    · have hg := finE hg (x1.outS hb1)
      refine seqE ?_
      refine andE (by first | exact mt_cat x1.hI (by assumption) | exact mt_cat2 x1.hI) ?_
      exact leafE hown hg
theorem c_laws_markText (p0 : Int) : FnOk prog 174 [.one (.v (.int .i64 p0))] ⟨.one (.v (.string (laws_markText p0))), [], [], false⟩ :=
  FnOk.fits ⟨_, func174, by kernel_rfl, by kernel_rfl⟩ (fun hf => cr_laws_markText p0 (range_of_fit hf.1))
def laws_szAttr (p0 : Attr) (p1 : Int) : Int :=
  (bif (decide ((IntKind.i64.wrap (p1 - (((p0.Key).size : Nat) : Int))) < 0)) then (-1) else (bif (decide ((IntKind.i64.wrap ((IntKind.i64.wrap (p1 - (((p0.Key).size : Nat) : Int))) - (((p0.Text).size : Nat) : Int))) < 0)) then (-1) else (IntKind.i64.wrap ((IntKind.i64.wrap (p1 - (((p0.Key).size : Nat) : Int))) - (((p0.Text).size : Nat) : Int)))))
theorem c_laws_szAttr (p0 : Attr) (p1 : Int) : FnOk prog 225 [.agg (Attr.cells p0), .one (.v (.int .i64 p1))] ⟨.one (.v (.int .i64 (laws_szAttr p0 p1))), [], [], false⟩ := by
  refine FnOk.intro (E := env) envOk wide func225 rfl (by kernel_rfl) rfl rfl ?_
  have hg := laws_szAttr.eq_1 p0 p1
  have hown : ∀ g : Int, AV.Own (AV.one (.v (.int .i64 g))) := fun g => .v _
  refine seqE ?_
  refine litE (m := 0) rfl ?_
  refine seqE ?_
  refine lenS fun hN1 => ?_
  refine seqE ?_
  refine seqE ?_
  refine brD hg (fun hg h2 => ?_) (fun hg h2 => ?_)
  · refine seqE ?_
    exact leafE hown hg
  · refine seqE ?_
    refine lenS fun hN3 => ?_
    refine seqE ?_
    refine seqE ?_
    refine brD hg (fun hg h4 => ?_) (fun hg h4 => ?_)
    · refine seqE ?_
      exact leafE hown hg
    · refine seqE ?_
      exact leafE hown hg
theorem szd_laws_szAttr : Szd Attr.bd laws_szAttr := by
  intro x left hb h0 h1 h2
  unfold laws_szAttr at h2 ⊢
  unfold Attr.bd at hb ⊢
  cases c0 : decide ((IntKind.i64.wrap (left - (((x.Key).size : Nat) : Int))) < 0) with
  | true => simp [c0] at h2
  | false =>
  have p0 : 0 ≤ (IntKind.i64.wrap (left - (((x.Key).size : Nat) : Int))) := by simpa using c0
  have w0 : (IntKind.i64.wrap (left - (((x.Key).size : Nat) : Int))) = left - (((x.Key).size : Nat) : Int) := by have := hb.1; rw [Go.Ev.wrap_small] <;> omega
  have b0 : (x.Key).size ≤ 1048576 := by omega
  have u0 : (IntKind.i64.wrap (left - (((x.Key).size : Nat) : Int))) ≤ left := by omega
  have v0 : (IntKind.i64.wrap (left - (((x.Key).size : Nat) : Int))) ≤ 1048576 := by omega
  cases c1 : decide ((IntKind.i64.wrap ((IntKind.i64.wrap (left - (((x.Key).size : Nat) : Int))) - (((x.Text).size : Nat) : Int))) < 0) with
  | true => simp [c0, c1] at h2
  | false =>
  have p1 : 0 ≤ (IntKind.i64.wrap ((IntKind.i64.wrap (left - (((x.Key).size : Nat) : Int))) - (((x.Text).size : Nat) : Int))) := by simpa using c1
  have w1 : (IntKind.i64.wrap ((IntKind.i64.wrap (left - (((x.Key).size : Nat) : Int))) - (((x.Text).size : Nat) : Int))) = (IntKind.i64.wrap (left - (((x.Key).size : Nat) : Int))) - (((x.Text).size : Nat) : Int) := by have := hb.2; rw [Go.Ev.wrap_small] <;> omega
  have b1 : (x.Text).size ≤ 1048576 := by omega
  have u1 : (IntKind.i64.wrap ((IntKind.i64.wrap (left - (((x.Key).size : Nat) : Int))) - (((x.Text).size : Nat) : Int))) ≤ (IntKind.i64.wrap (left - (((x.Key).size : Nat) : Int))) := by omega
  have v1 : (IntKind.i64.wrap ((IntKind.i64.wrap (left - (((x.Key).size : Nat) : Int))) - (((x.Text).size : Nat) : Int))) ≤ 1048576 := by omega
  simp only [c0, c1, cond_false] at h2 ⊢
  exact ⟨⟨b0, b1⟩, by omega⟩
def laws_szAttrS_b1 (i1 : Nat) (s1 : Int) (a1 : Attr) : Step (Int) Int :=
  (bif (decide ((laws_szAttr a1 s1) < 0)) then (.done (-1)) else (.next (laws_szAttr a1 s1)))
def laws_szAttrS (p0 : (List Attr)) (p1 : Int) : Int :=
  (bif (decide ((IntKind.i64.wrap (p1 - (((p0).length : Nat) : Int))) < 0)) then (-1) else (Fin.get (fun s1 => s1) (loopL laws_szAttrS_b1 0 (IntKind.i64.wrap (p1 - (((p0).length : Nat) : Int))) p0)))
theorem c_laws_szAttrS (p0 : (List Attr)) (p1 : Int) : FnOk prog 200 [.one (.s false 4 (List.map Attr.cells p0)), .one (.v (.int .i64 p1))] ⟨.one (.v (.int .i64 (laws_szAttrS p0 p1))), [], [], false⟩ := by
  refine FnOk.intro (E := env) envOk wide func200 rfl (by kernel_rfl) rfl rfl ?_
  have hg := laws_szAttrS.eq_1 p0 p1
  have hown : ∀ g : Int, AV.Own (AV.one (.v (.int .i64 g))) := fun g => .v _
  refine seqE ?_
  refine seqE ?_
  refine lenM fun hN1 => ?_
  refine seqE ?_
  refine seqE ?_
  refine brD hg (fun hg h2 => ?_) (fun hg h2 => ?_)
  · refine seqE ?_
    exact leafE hown hg
  · refine seqE ?_
    refine seqE ?_
    refine loopLE hg [0] (fun x1 => [(1, .one (.v (.int .i64 x1.s))), (5, .one (.v (.int .i64 ((x1.i : Nat) : Int))))]) (fun x1 => []) [] ?_ (fun x1 => ?_)
    · exact ⟨rfl, ⟨rfl, rfl, rfl, trivial⟩, trivial, trivial⟩
    refine seqE ?_
    refine seqE ?_
    refine lenM fun hN3 => ?_
    refine tstL (fun hi1 => ?_) (fun hi1 => ?_)
    · have hb1 := (x1.bdy hi1).trans (laws_szAttrS_b1.eq_1 ..)
      have hw1 := wrap_succ hi1 (by first | assumption | omega)
      refine seqE ?_
      refine seqE ?_
      refine idxAt hi1 ?_
      refine .inl (⟨_, _, c_laws_szAttr (p0[x1.i]'hi1) x1.s, (FzAs.same _), ?_⟩)
      refine litE (m := 1) rfl ?_
      refine seqE ?_
      refine brD hb1 (fun hb1 h4 => ?_) (fun hb1 h4 => x1.goE hi1 hb1 [] ⟨rfl, ⟨rfl, (eqInt hw1), rfl, trivial⟩, trivial, trivial⟩)
      refine seqE ?_
      have hg := donE hg (x1.outD hi1 hb1)
      exact leafE hown hg
    have hg := finE hg (x1.fin hi1)
    refine seqE ?_
    exact leafE hown hg
theorem szd_laws_szAttrS : Szd (bdS Attr.bd) laws_szAttrS := szS_ok (b := laws_szAttrS_b1) szd_laws_szAttr (fun _ _ _ => rfl) (fun _ _ => rfl)
def laws_szSpan (p0 : Span) (p1 : Int) : Int :=
  (bif (decide ((laws_szAttrS p0.Attrs p1) < 0)) then (-1) else (laws_szAttrS p0.Attrs p1))
theorem c_laws_szSpan (p0 : Span) (p1 : Int) : FnOk prog 171 [.agg ((Span.cells false) p0), .one (.v (.int .i64 p1))] ⟨.one (.v (.int .i64 (laws_szSpan p0 p1))), [], [], false⟩ := by
  refine FnOk.intro (E := env) envOk wide func171 rfl (by kernel_rfl) rfl rfl ?_
  have hg := laws_szSpan.eq_1 p0 p1
  have hown : ∀ g : Int, AV.Own (AV.one (.v (.int .i64 g))) := fun g => .v _
  refine seqE ?_
  refine litE (m := 0) rfl ?_
  refine seqE ?_
  refine .inl (⟨_, _, c_laws_szAttrS p0.Attrs p1, (FzAs.same _), ?_⟩)
  refine litE (m := 2) rfl ?_
  refine seqE ?_
  refine seqE ?_
  refine brD hg (fun hg h1 => ?_) (fun hg h1 => ?_)
  · refine seqE ?_
    exact leafE hown hg
  · refine seqE ?_
    exact leafE hown hg
theorem szd_laws_szSpan : Szd Span.bd laws_szSpan := by
  intro x left hb h0 h1 h2
  unfold laws_szSpan at h2 ⊢
  unfold Span.bd at hb ⊢
  cases c0 : decide ((laws_szAttrS x.Attrs left) < 0) with
  | true => simp [c0] at h2
  | false =>
  have p0 : 0 ≤ (laws_szAttrS x.Attrs left) := by simpa using c0
  have z0 := szd_laws_szAttrS x.Attrs left hb h0 h1 p0
  have b0 := z0.1
  have u0 := z0.2
  have v0 : (laws_szAttrS x.Attrs left) ≤ 1048576 := by omega
  simp only [c0, cond_false] at h2 ⊢
  exact ⟨b0, by omega⟩
def laws_szDeed (p0 : Deed) (p1 : Int) : Int :=
  (bif (decide ((laws_szSpan p0.S p1) < 0)) then (-1) else (laws_szSpan p0.S p1))
theorem c_laws_szDeed (p0 : Deed) (p1 : Int) : FnOk prog 106 [.agg ((Deed.cells false) p0), .one (.v (.int .i64 p1))] ⟨.one (.v (.int .i64 (laws_szDeed p0 p1))), [], [], false⟩ := by
  refine FnOk.intro (E := env) envOk wide func106 rfl (by kernel_rfl) rfl rfl ?_
  have hg := laws_szDeed.eq_1 p0 p1
  have hown : ∀ g : Int, AV.Own (AV.one (.v (.int .i64 g))) := fun g => .v _
  refine seqE ?_
  refine litE (m := 0) rfl ?_
  refine seqE ?_
  refine .inl (⟨_, _, c_laws_szSpan p0.S p1, (FzAs.same _), ?_⟩)
  refine litE (m := 2) rfl ?_
  refine seqE ?_
  refine seqE ?_
  refine brD hg (fun hg h1 => ?_) (fun hg h1 => ?_)
  · refine seqE ?_
    exact leafE hown hg
  · refine seqE ?_
    exact leafE hown hg
theorem szd_laws_szDeed : Szd Deed.bd laws_szDeed := by
  intro x left hb h0 h1 h2
  unfold laws_szDeed at h2 ⊢
  unfold Deed.bd at hb ⊢
  cases c0 : decide ((laws_szSpan x.S left) < 0) with
  | true => simp [c0] at h2
  | false =>
  have p0 : 0 ≤ (laws_szSpan x.S left) := by simpa using c0
  have z0 := szd_laws_szSpan x.S left hb h0 h1 p0
  have b0 := z0.1
  have u0 := z0.2
  have v0 : (laws_szSpan x.S left) ≤ 1048576 := by omega
  simp only [c0, cond_false] at h2 ⊢
  exact ⟨b0, by omega⟩
def laws_szDeedS_b1 (i1 : Nat) (s1 : Int) (a1 : Deed) : Step (Int) Int :=
  (bif (decide ((laws_szDeed a1 s1) < 0)) then (.done (-1)) else (.next (laws_szDeed a1 s1)))
def laws_szDeedS (p0 : (List Deed)) (p1 : Int) : Int :=
  (bif (decide ((IntKind.i64.wrap (p1 - (((p0).length : Nat) : Int))) < 0)) then (-1) else (Fin.get (fun s1 => s1) (loopL laws_szDeedS_b1 0 (IntKind.i64.wrap (p1 - (((p0).length : Nat) : Int))) p0)))
theorem c_laws_szDeedS (p0 : (List Deed)) (p1 : Int) : FnOk prog 28 [.one (.s false 20 (List.map (Deed.cells false) p0)), .one (.v (.int .i64 p1))] ⟨.one (.v (.int .i64 (laws_szDeedS p0 p1))), [], [], false⟩ := by
  refine FnOk.intro (E := env) envOk wide func28 rfl (by kernel_rfl) rfl rfl ?_
  have hg := laws_szDeedS.eq_1 p0 p1
  have hown : ∀ g : Int, AV.Own (AV.one (.v (.int .i64 g))) := fun g => .v _
  refine seqE ?_
  refine seqE ?_
  refine lenM fun hN1 => ?_
  refine seqE ?_
  refine seqE ?_
  refine brD hg (fun hg h2 => ?_) (fun hg h2 => ?_)
  · refine seqE ?_
    exact leafE hown hg
  · refine seqE ?_
    refine seqE ?_
    refine loopLE hg [0] (fun x1 => [(1, .one (.v (.int .i64 x1.s))), (5, .one (.v (.int .i64 ((x1.i : Nat) : Int))))]) (fun x1 => []) [] ?_ (fun x1 => ?_)
    · exact ⟨rfl, ⟨rfl, rfl, rfl, trivial⟩, trivial, trivial⟩
    refine seqE ?_
    refine seqE ?_
    refine lenM fun hN3 => ?_
    refine tstL (fun hi1 => ?_) (fun hi1 => ?_)
    · have hb1 := (x1.bdy hi1).trans (laws_szDeedS_b1.eq_1 ..)
      have hw1 := wrap_succ hi1 (by first | assumption | omega)
      refine seqE ?_
      refine seqE ?_
      refine idxAt hi1 ?_
      refine .inl (⟨_, _, c_laws_szDeed (p0[x1.i]'hi1) x1.s, (FzAs.same _), ?_⟩)
      refine litE (m := 1) rfl ?_
      refine seqE ?_
      refine brD hb1 (fun hb1 h4 => ?_) (fun hb1 h4 => x1.goE hi1 hb1 [] ⟨rfl, ⟨rfl, (eqInt hw1), rfl, trivial⟩, trivial, trivial⟩)
      refine seqE ?_
      have hg := donE hg (x1.outD hi1 hb1)
      exact leafE hown hg
    have hg := finE hg (x1.fin hi1)
    refine seqE ?_
    exact leafE hown hg
theorem szd_laws_szDeedS : Szd (bdS Deed.bd) laws_szDeedS := szS_ok (b := laws_szDeedS_b1) szd_laws_szDeed (fun _ _ _ => rfl) (fun _ _ => rfl)
def laws_toAttr (p0 : Attr) : Attr :=
  p0
theorem c_laws_toAttr (p0 : Attr) : FnOk prog 226 [.agg (Attr.cells p0)] ⟨.agg (Attr.cells (laws_toAttr p0)), [], [], false⟩ := by
  refine FnOk.intro (E := env) envOk wide func226 rfl (by kernel_rfl) rfl rfl ?_
  have hg := laws_toAttr.eq_1 p0
  have hown : ∀ g : Attr, AV.Own (AV.agg (Attr.cells g)) := fun g => own_Attr _
  refine seqE ?_
  refine litE (m := 0) rfl ?_
  refine litE (m := 1) rfl ?_
  refine seqE ?_
  refine litE (m := 2) rfl ?_
  refine seqE ?_
  refine seqE ?_
  refine seqE ?_
  refine seqE ?_
  refine seqE ?_
  exact leafE hown hg
theorem id_laws_toAttr (x : Attr) : laws_toAttr x = x := by
  first | rfl | (simp only [laws_toAttr]; done) | (simp only [laws_toAttr]; rfl)
def laws_toAttrS_b1 (i1 : Nat) (s1 : (List Attr)) (a1 : Attr) : Step ((List Attr)) (List Attr) :=
  (.next (List.set s1 i1 (laws_toAttr a1)))
def laws_toAttrS (p0 : (List Attr)) : (List Attr) :=
  (Fin.get (fun s1 => s1) (loopL laws_toAttrS_b1 0 (List.replicate (p0).length (default : Attr)) p0))
theorem c_laws_toAttrS (p0 : (List Attr)) (hs : bdS Attr.bd 1048576 p0) : FnOk prog 201 [.one (.s false 4 (List.map Attr.cells p0))] ⟨.one (.s true 4 (List.map Attr.cells (laws_toAttrS p0))), [], [], false⟩ := by
  refine FnOk.intro (E := env) envOk wide func201 rfl (by kernel_rfl) rfl rfl ?_
  have hs1 := hs.1
  have hg := laws_toAttrS.eq_1 p0
  have hown : ∀ g : (List Attr), AV.Own (AV.one (.s true 4 (List.map Attr.cells g))) := fun g => ownSl own_Attr _
  refine seqE ?_
  refine seqE ?_
  refine lenM fun hN1 => ?_
  refine And.intro (by exact ⟨rfl, by omega, by show ((48 : Nat) : Int) * _ ≤ _; omega, by omega⟩) (rowsE (Y := List.map Attr.cells (List.replicate (p0).length (default : Attr))) (by rw [List.map_replicate]; rfl) ?_)
  refine litE (m := 0) rfl ?_
  refine seqE ?_
  refine seqE ?_
  refine loopLI (fun _ s => (s).length = (p0).length) hg (by simp) [0, 3] (fun x1 => [(4, .one (.v (.int .i64 ((x1.i : Nat) : Int))))]) (fun x1 => [.new ⟨4, false, List.map Attr.cells x1.s, 0⟩]) [some 0] ?_ (fun x1 => ?_)
  · exact ⟨rfl, ⟨rfl, rfl, ⟨rfl, rfl, rfl, rfl, by (first | rfl | omega | (dsimp only; omega) | (simp; done) | (simp; omega) | (simp [LstSt.init, LstSt.step, LstInv.init, CntSt.init, CntSt.step, CntInv.init, WhlSt.init, WhlSt.step]; done) | (simp [LstSt.init, LstSt.step, LstInv.init, CntSt.init, CntSt.step, CntInv.init, WhlSt.init, WhlSt.step]; omega))⟩, trivial⟩, ⟨⟨rfl, rfl, rfl⟩, trivial⟩, trivial⟩
  have hI1 : (x1.s).length = (p0).length := by simpa using x1.hI
  refine seqE ?_
  refine seqE ?_
  refine lenM fun hN2 => ?_
  refine tstL (fun hi1 => ?_) (fun hi1 => ?_)
  · have hb1 := (x1.bdy hi1).trans (laws_toAttrS_b1.eq_1 ..)
    have hw1 := wrap_succ hi1 (by first | assumption | omega)
    refine seqE ?_
    refine idxAt hi1 ?_
    refine .inl (⟨_, _, c_laws_toAttr (p0[x1.i]'hi1), (FzAs.same _), ?_⟩)
    refine litE (m := 2) rfl ?_
    refine andE (by (first | omega | (simp (disch := omega) only [wrap_small, mid_eq, List.length_map]; omega) | (simp; done) | (simp; omega) | (simp at *; omega) | (simp at *; done) | (simp_all; done) | (simp_all; omega))) ?_
    refine rowsE (Y := List.map Attr.cells (List.set x1.s x1.i (laws_toAttr (p0[x1.i]'hi1)))) (by exact setMapE (by simp) (fun a ha => by first | rfl | (simp only [ha, Option.getD_some]; rfl) | (obtain ⟨_, rfl⟩ := List.getElem?_eq_some_iff.1 ha; rfl) | (simp only [Pol.cells_eq]; rfl) | (simp only [ha, Option.getD_some, Pol.cells_eq]; rfl))) ?_
    exact x1.goE hi1 hb1 (by simpa using x1.hI) [some 0] ⟨rfl, ⟨(eqInt hw1), rfl, ⟨rfl, rfl, rfl, rfl, by (first | rfl | omega | (dsimp only; omega) | (simp; done) | (simp; omega) | (simp [LstSt.init, LstSt.step, LstInv.init, CntSt.init, CntSt.step, CntInv.init, WhlSt.init, WhlSt.step]; done) | (simp [LstSt.init, LstSt.step, LstInv.init, CntSt.init, CntSt.step, CntInv.init, WhlSt.init, WhlSt.step]; omega))⟩, trivial⟩, ⟨⟨rfl, rfl, rfl⟩, trivial⟩, trivial⟩
  have hg := finE hg (x1.fin hi1)
  refine seqE ?_
  exact leafE hown hg
theorem id_laws_toAttrS (x : (List Attr)) : laws_toAttrS x = x := setS_ok (b := laws_toAttrS_b1) id_laws_toAttr (fun _ _ _ => rfl) (fun _ => rfl) x
def laws_toSpan (p0 : Span) : Span :=
  (Span.mk p0.Trace p0.Id p0.Start p0.End p0.Err (laws_toAttrS p0.Attrs))
theorem c_laws_toSpan (p0 : Span) (hs : Span.bd 1048576 p0) : FnOk prog 172 [.agg ((Span.cells false) p0)] ⟨.agg ((Span.cells true) (laws_toSpan p0)), [], [], false⟩ := by
  refine FnOk.intro (E := env) envOk wide func172 rfl (by kernel_rfl) rfl rfl ?_
  unfold Span.bd at hs
  have hg := laws_toSpan.eq_1 p0
  have hown : ∀ g : Span, AV.Own (AV.agg ((Span.cells true) g)) := fun g => own_Span _
  refine seqE ?_
  refine litE (m := 0) rfl ?_
  refine litE (m := 1) rfl ?_
  refine seqE ?_
  refine litE (m := 2) rfl ?_
  refine seqE ?_
  refine seqE ?_
  refine seqE ?_
  refine seqE ?_
  refine seqE ?_
  refine seqE ?_
  refine .inl (⟨_, _, c_laws_toAttrS p0.Attrs (by exact hs), (FzAs.same _), ?_⟩)
  refine litE (m := 4) rfl ?_
  refine seqE ?_
  exact leafE hown hg
theorem id_laws_toSpan (x : Span) : laws_toSpan x = x := by
  first | rfl | (simp only [laws_toSpan, id_laws_toAttrS]; done) | (simp only [laws_toSpan, id_laws_toAttrS]; rfl)
def laws_toDeed (p0 : Deed) : Deed :=
  (Deed.mk p0.Op p0.Task (laws_toSpan p0.S) p0.Trace p0.Stamp p0.Code p0.Keep p0.Void p0.Took p0.N p0.Forgot p0.Now p0.Inv p0.Lin p0.Res)
theorem c_laws_toDeed (p0 : Deed) (hs : Deed.bd 1048576 p0) : FnOk prog 108 [.agg ((Deed.cells false) p0)] ⟨.agg ((Deed.cells true) (laws_toDeed p0)), [], [], false⟩ := by
  refine FnOk.intro (E := env) envOk wide func108 rfl (by kernel_rfl) rfl rfl ?_
  unfold Deed.bd at hs
  have hg := laws_toDeed.eq_1 p0
  have hown : ∀ g : Deed, AV.Own (AV.agg ((Deed.cells true) g)) := fun g => own_Deed _
  refine seqE ?_
  refine litE (m := 0) rfl ?_
  refine litE (m := 1) rfl ?_
  refine seqE ?_
  refine litE (m := 2) rfl ?_
  refine seqE ?_
  refine seqE ?_
  refine seqE ?_
  refine .inl (⟨_, _, c_laws_toSpan p0.S (by exact hs), (FzAs.same _), ?_⟩)
  refine litE (m := 4) rfl ?_
  refine seqE ?_
  refine seqE ?_
  refine seqE ?_
  refine seqE ?_
  refine seqE ?_
  refine seqE ?_
  refine seqE ?_
  refine seqE ?_
  refine seqE ?_
  refine seqE ?_
  refine seqE ?_
  refine seqE ?_
  refine seqE ?_
  exact leafE hown hg
theorem id_laws_toDeed (x : Deed) : laws_toDeed x = x := by
  first | rfl | (simp only [laws_toDeed, id_laws_toSpan]; done) | (simp only [laws_toDeed, id_laws_toSpan]; rfl)
def laws_toDeedS_b1 (i1 : Nat) (s1 : (List Deed)) (a1 : Deed) : Step ((List Deed)) (List Deed) :=
  (.next (List.set s1 i1 (laws_toDeed a1)))
def laws_toDeedS (p0 : (List Deed)) : (List Deed) :=
  (Fin.get (fun s1 => s1) (loopL laws_toDeedS_b1 0 (List.replicate (p0).length (default : Deed)) p0))
theorem c_laws_toDeedS (p0 : (List Deed)) (hs : bdS Deed.bd 1048576 p0) : FnOk prog 30 [.one (.s false 20 (List.map (Deed.cells false) p0))] ⟨.one (.s true 20 (List.map (Deed.cells true) (laws_toDeedS p0))), [], [], false⟩ := by
  refine FnOk.intro (E := env) envOk wide func30 rfl (by kernel_rfl) rfl rfl ?_
  have hs1 := hs.1
  have hg := laws_toDeedS.eq_1 p0
  have hown : ∀ g : (List Deed), AV.Own (AV.one (.s true 20 (List.map (Deed.cells true) g))) := fun g => ownSl own_Deed _
  refine seqE ?_
  refine seqE ?_
  refine lenM fun hN1 => ?_
  refine And.intro (by exact ⟨rfl, by omega, by show ((168 : Nat) : Int) * _ ≤ _; omega, by omega⟩) (rowsE (Y := List.map (Deed.cells true) (List.replicate (p0).length (default : Deed))) (by rw [List.map_replicate]; rfl) ?_)
  refine litE (m := 0) rfl ?_
  refine seqE ?_
  refine seqE ?_
  refine loopLI (fun _ s => (s).length = (p0).length) hg (by simp) [0, 3] (fun x1 => [(4, .one (.v (.int .i64 ((x1.i : Nat) : Int))))]) (fun x1 => [.new ⟨20, false, List.map (Deed.cells true) x1.s, 0⟩]) [some 0] ?_ (fun x1 => ?_)
  · exact ⟨rfl, ⟨rfl, rfl, ⟨rfl, rfl, rfl, rfl, by (first | rfl | omega | (dsimp only; omega) | (simp; done) | (simp; omega) | (simp [LstSt.init, LstSt.step, LstInv.init, CntSt.init, CntSt.step, CntInv.init, WhlSt.init, WhlSt.step]; done) | (simp [LstSt.init, LstSt.step, LstInv.init, CntSt.init, CntSt.step, CntInv.init, WhlSt.init, WhlSt.step]; omega))⟩, trivial⟩, ⟨⟨rfl, rfl, rfl⟩, trivial⟩, trivial⟩
  have hI1 : (x1.s).length = (p0).length := by simpa using x1.hI
  refine seqE ?_
  refine seqE ?_
  refine lenM fun hN2 => ?_
  refine tstL (fun hi1 => ?_) (fun hi1 => ?_)
  · have hb1 := (x1.bdy hi1).trans (laws_toDeedS_b1.eq_1 ..)
    have hw1 := wrap_succ hi1 (by first | assumption | omega)
    refine seqE ?_
    refine idxAt hi1 ?_
    refine .inl (⟨_, _, c_laws_toDeed (p0[x1.i]'hi1) (by exact hs.get hi1), (FzAs.same _), ?_⟩)
    refine litE (m := 2) rfl ?_
    refine andE (by (first | omega | (simp (disch := omega) only [wrap_small, mid_eq, List.length_map]; omega) | (simp; done) | (simp; omega) | (simp at *; omega) | (simp at *; done) | (simp_all; done) | (simp_all; omega))) ?_
    refine rowsE (Y := List.map (Deed.cells true) (List.set x1.s x1.i (laws_toDeed (p0[x1.i]'hi1)))) (by exact setMapE (by simp) (fun a ha => by first | rfl | (simp only [ha, Option.getD_some]; rfl) | (obtain ⟨_, rfl⟩ := List.getElem?_eq_some_iff.1 ha; rfl) | (simp only [Pol.cells_eq]; rfl) | (simp only [ha, Option.getD_some, Pol.cells_eq]; rfl))) ?_
    exact x1.goE hi1 hb1 (by simpa using x1.hI) [some 0] ⟨rfl, ⟨(eqInt hw1), rfl, ⟨rfl, rfl, rfl, rfl, by (first | rfl | omega | (dsimp only; omega) | (simp; done) | (simp; omega) | (simp [LstSt.init, LstSt.step, LstInv.init, CntSt.init, CntSt.step, CntInv.init, WhlSt.init, WhlSt.step]; done) | (simp [LstSt.init, LstSt.step, LstInv.init, CntSt.init, CntSt.step, CntInv.init, WhlSt.init, WhlSt.step]; omega))⟩, trivial⟩, ⟨⟨rfl, rfl, rfl⟩, trivial⟩, trivial⟩
  have hg := finE hg (x1.fin hi1)
  refine seqE ?_
  exact leafE hown hg
theorem id_laws_toDeedS (x : (List Deed)) : laws_toDeedS x = x := setS_ok (b := laws_toDeedS_b1) id_laws_toDeed (fun _ _ _ => rfl) (fun _ => rfl) x
def spec_Order_b3 (p0 : (List Deed)) (s1 : (List Int)) (a1 : Deed) (s3 : Int) : Step (Int) (Step (Int) (Step ((List Int)) (List Int))) :=
  (bif (decide (s3 > 0)) then (bif (decide ((p0[((s1[((IntKind.i64.wrap (s3 - 1))).toNat]?.getD default)).toNat]?.getD default).Lin > a1.Lin)) then (.next (IntKind.i64.wrap (s3 - 1))) else (.stop s3)) else (.stop s3))
def spec_Order_j2 (p0 : (List Deed)) (s1 : (List Int)) (a1 : Deed) : Step (Int) (Step ((List Int)) (List Int)) :=
  (Fin.get (fun s3 => (.next s3)) (loopW (spec_Order_b3 p0 s1 a1) (Int.toNat (((s1).length : Nat) : Int)) (((s1).length : Nat) : Int)))
def spec_Order_b1 (p0 : (List Deed)) (i1 : Nat) (s1 : (List Int)) (a1 : Deed) : Step ((List Int)) (List Int) :=
  (bif (a1.Lin == (-1)) then (.next s1) else (Step.get (fun s2 => (.next (((List.take ((s2).toNat - 0) (List.drop 0 s1)) ++ [((i1 : Nat) : Int)]) ++ (List.take ((s1).length - (s2).toNat) (List.drop (s2).toNat s1))))) (spec_Order_j2 p0 s1 a1)))
def spec_Order (p0 : (List Deed)) : (List Int) :=
  (Fin.get (fun s1 => s1) (loopL (spec_Order_b1 p0) 0 ([] : List Int) p0))
theorem ord_bd {p0 : List Deed} {s1 : List Int} {a1 : Deed} {v : Int} (hl : s1.length ≤ 1048576) (h : spec_Order_j2 p0 s1 a1 = .next v) : 0 ≤ v ∧ v ≤ ((s1.length : Nat) : Int) := by
  have key : ∀ v, spec_Order_j2 p0 s1 a1 = .next v → 0 ≤ v ∧ v ≤ ((s1.length : Nat) : Int) := by
    unfold spec_Order_j2
    refine len_fin (P := fun k : Int => 0 ≤ k ∧ k ≤ ((s1.length : Nat) : Int)) (Q := fun z : Step Int (Step (List Int) (List Int)) => ∀ v, z = .next v → 0 ≤ v ∧ v ≤ ((s1.length : Nat) : Int)) (loopW_ind (P := fun k : Int => 0 ≤ k ∧ k ≤ ((s1.length : Nat) : Int)) (fun s hs => ?_) _ _ ⟨by omega, by omega⟩) (fun v hv w hw => by cases hw; exact hv)
    unfold spec_Order_b3
    by_cases hp : s > 0
    · have hd : decide (s > 0) = true := by simpa using hp
      rw [hd, cond_true, wrap_small (by omega) (by omega)]
      exact bif_step (nx_step (by omega)) (st_step hs)
    · have hd : decide (s > 0) = false := by simpa using hp
      rw [hd, cond_false]
      exact st_step hs
  exact key v h
theorem c_spec_Order (p0 : (List Deed)) (hs : p0.length ≤ 1048576) : FnOk prog 107 [.one (.s false 20 (List.map (Deed.cells false) p0))] ⟨.one (.s true 1 (List.map cInt (spec_Order p0))), [], [], false⟩ := by
  refine FnOk.intro (E := env) envOk wide func107 rfl (by kernel_rfl) rfl rfl ?_
  have hg := spec_Order.eq_1 p0
  have hown : ∀ g : (List Int), AV.Own (AV.one (.s true 1 (List.map cInt g))) := fun g => ownSl own_cInt _
  refine seqE ?_
  refine seqE ?_
  refine litE (m := 0) rfl ?_
  refine seqE ?_
  refine seqE ?_
  refine loopLI (fun (i : Nat) (s : List Int) => OrI i s) hg (⟨Nat.le_refl _, by simp [Srt]⟩) [0] (fun x1 => [(3, .one (.n 0 [] 1 0 (x1.s).length)), (4, .one (.v (.int .i64 ((x1.i : Nat) : Int))))]) (fun x1 => [.new ⟨1, false, List.map cInt x1.s, 0⟩]) [some 0] ?_ (fun x1 => ?_)
  · exact ⟨rfl, ⟨⟨rfl, rfl, rfl, rfl, by (first | rfl | omega | (dsimp only; omega) | (simp; done) | (simp; omega) | (simp [LstSt.init, LstSt.step, LstInv.init, CntSt.init, CntSt.step, CntInv.init, WhlSt.init, WhlSt.step]; done) | (simp [LstSt.init, LstSt.step, LstInv.init, CntSt.init, CntSt.step, CntInv.init, WhlSt.init, WhlSt.step]; omega))⟩, rfl, rfl, trivial⟩, ⟨⟨rfl, rfl, rfl⟩, trivial⟩, trivial⟩
  have hI1 := x1.hI
  try dsimp only at hI1
  refine seqE ?_
  refine seqE ?_
  refine lenM fun hN1 => ?_
  refine tstL (fun hi1 => ?_) (fun hi1 => ?_)
  · have hb1 := (x1.bdy hi1).trans (spec_Order_b1.eq_1 ..)
    have hw1 := wrap_succ hi1 (by first | assumption | omega)
    refine seqE ?_
    refine seqE ?_
    refine seqE ?_
    refine idxAt hi1 ?_
    refine brQ hb1 (fun hb1 h2 => x1.goE hi1 hb1 (by first | exact ors_keep hI1 | exact ors_ins hI1 _ q2) [some 0] ⟨rfl, ⟨⟨rfl, rfl, rfl, rfl, by (first | rfl | omega | (dsimp only; omega) | (simp; done) | (simp; omega) | (simp [LstSt.init, LstSt.step, LstInv.init, CntSt.init, CntSt.step, CntInv.init, WhlSt.init, WhlSt.step]; done) | (simp [LstSt.init, LstSt.step, LstInv.init, CntSt.init, CntSt.step, CntInv.init, WhlSt.init, WhlSt.step]; omega))⟩, (eqInt hw1), rfl, trivial⟩, ⟨⟨rfl, rfl, rfl⟩, trivial⟩, trivial⟩) (fun hb1 h2 => ?_)
    refine seqE ?_
    refine lenE (k := (x1.s).length) (by simp) (fun hN3 => ?_)
    refine joinE hb1 [0, 3, 4] (fun x2 => [(5, .one (.v (.int .i64 x2.s)))]) (fun x2 => [.keep 0]) (fun hb2 => ?_) (fun x2 hb1 => ?_)
    · have hb2 := hb2.trans (spec_Order_j2.eq_1 ..)
      refine loopWE (m := Int.toNat) (s0 := (((x1.s).length : Nat) : Int)) (fun k : Int => 0 ≤ k ∧ k ≤ ((x1.s.length : Nat) : Int)) hb2 (by exact ⟨by omega, by omega⟩) [0, 3, 4] (fun x3 => [(5, .one (.v (.int .i64 x3.s)))]) (fun x3 => [.keep 0]) [some 0] ?_ (fun x3 => ?_)
      · exact ⟨rfl, ⟨rfl, rfl, ⟨rfl, rfl, rfl, rfl, by (first | rfl | omega | (dsimp only; omega) | (simp; done) | (simp; omega) | (simp [LstSt.init, LstSt.step, LstInv.init, CntSt.init, CntSt.step, CntInv.init, WhlSt.init, WhlSt.step]; done) | (simp [LstSt.init, LstSt.step, LstInv.init, CntSt.init, CntSt.step, CntInv.init, WhlSt.init, WhlSt.step]; omega))⟩, rfl, trivial⟩, ⟨⟨rfl, rfl, rfl⟩, trivial⟩, trivial⟩
      have hI3 := x3.hI
      try dsimp only at hI3
      have hb3 := x3.bdy.trans (spec_Order_b3.eq_1 ..)
      refine seqE ?_
      refine seqE ?_
      refine .inl ⟨by kernel_rfl, ?_⟩
      refine brD hb3 (fun hb3 h4 => ?_) (fun hb3 h4 => ?_)
      · refine andE (by have q1 := hI1.1; first | (first | omega | (dsimp only <;> omega) | (simp (disch := omega) only [wrap_small, mid_eq, mid_eq1, mid_eq2, mid_eq3, List.length_map, List.length_set] <;> omega) | (simp (disch := omega) only [wrap_small, mid_eq, mid_eq1, mid_eq2, mid_eq3, List.length_map, List.length_set] at * <;> omega)) | (have q := Srt.get hI1.2 (i := ((IntKind.i64.wrap (x3.s - 1))).toNat) (by (first | omega | (dsimp only <;> omega) | (simp (disch := omega) only [wrap_small, mid_eq, mid_eq1, mid_eq2, mid_eq3, List.length_map, List.length_set] <;> omega) | (simp (disch := omega) only [wrap_small, mid_eq, mid_eq1, mid_eq2, mid_eq3, List.length_map, List.length_set] at * <;> omega))); (try dsimp only at q); omega)) ?_
        refine rowGet (i := ((IntKind.i64.wrap (x3.s - 1))).toNat) (l := x1.s) (by first | rfl | exact Nat.zero_add _ | simp) (fun hq5 => ?_)
        refine idxOf (l := p0) (by have q1 := hI1.1; first | (first | omega | (dsimp only <;> omega) | (simp (disch := omega) only [wrap_small, mid_eq, mid_eq1, mid_eq2, mid_eq3, List.length_map, List.length_set] <;> omega) | (simp (disch := omega) only [wrap_small, mid_eq, mid_eq1, mid_eq2, mid_eq3, List.length_map, List.length_set] at * <;> omega)) | (have q := Srt.get hI1.2 (i := ((IntKind.i64.wrap (x3.s - 1))).toNat) (by (first | omega | (dsimp only <;> omega) | (simp (disch := omega) only [wrap_small, mid_eq, mid_eq1, mid_eq2, mid_eq3, List.length_map, List.length_set] <;> omega) | (simp (disch := omega) only [wrap_small, mid_eq, mid_eq1, mid_eq2, mid_eq3, List.length_map, List.length_set] at * <;> omega))); (try dsimp only at q); omega)) (fun hq6 => ?_)
        refine idxAt hi1 ?_
        refine brD hb3 (fun hb3 h7 => x3.goE hb3 (show (fun k : Int => 0 ≤ k ∧ k ≤ ((x1.s.length : Nat) : Int)) (IntKind.i64.wrap (x3.s - 1)) ∧ Int.toNat (IntKind.i64.wrap (x3.s - 1)) < Int.toNat x3.s by have q1 := hI1.1; exact ⟨⟨by (first | omega | (dsimp only <;> omega) | (simp (disch := omega) only [wrap_small, mid_eq, mid_eq1, mid_eq2, mid_eq3, List.length_map, List.length_set] <;> omega) | (simp (disch := omega) only [wrap_small, mid_eq, mid_eq1, mid_eq2, mid_eq3, List.length_map, List.length_set] at * <;> omega)), by (first | omega | (dsimp only <;> omega) | (simp (disch := omega) only [wrap_small, mid_eq, mid_eq1, mid_eq2, mid_eq3, List.length_map, List.length_set] <;> omega) | (simp (disch := omega) only [wrap_small, mid_eq, mid_eq1, mid_eq2, mid_eq3, List.length_map, List.length_set] at * <;> omega))⟩, by (first | omega | (dsimp only <;> omega) | (simp (disch := omega) only [wrap_small, mid_eq, mid_eq1, mid_eq2, mid_eq3, List.length_map, List.length_set] <;> omega) | (simp (disch := omega) only [wrap_small, mid_eq, mid_eq1, mid_eq2, mid_eq3, List.length_map, List.length_set] at * <;> omega))⟩) [some 0] ⟨rfl, ⟨rfl, rfl, ⟨rfl, rfl, rfl, rfl, by (first | rfl | omega | (dsimp only; omega) | (simp; done) | (simp; omega) | (simp [LstSt.init, LstSt.step, LstInv.init, CntSt.init, CntSt.step, CntInv.init, WhlSt.init, WhlSt.step]; done) | (simp [LstSt.init, LstSt.step, LstInv.init, CntSt.init, CntSt.step, CntInv.init, WhlSt.init, WhlSt.step]; omega))⟩, rfl, trivial⟩, ⟨⟨rfl, rfl, rfl⟩, trivial⟩, trivial⟩) (fun hb3 h7 => ?_)
        have hb2 := finE hb2 (x3.outS hb3)
        exact .inl ⟨⟨_, hb2⟩, [some 0], ⟨rfl, ⟨rfl, rfl, ⟨rfl, rfl, rfl, rfl, by (first | rfl | omega | (dsimp only; omega) | (simp; done) | (simp; omega) | (simp [LstSt.init, LstSt.step, LstInv.init, CntSt.init, CntSt.step, CntInv.init, WhlSt.init, WhlSt.step]; done) | (simp [LstSt.init, LstSt.step, LstInv.init, CntSt.init, CntSt.step, CntInv.init, WhlSt.init, WhlSt.step]; omega))⟩, rfl, trivial⟩, ⟨⟨rfl, rfl, rfl⟩, trivial⟩, trivial⟩⟩
      · have hb2 := finE hb2 (x3.outS hb3)
        exact .inl ⟨⟨_, hb2⟩, [some 0], ⟨rfl, ⟨rfl, rfl, ⟨rfl, rfl, rfl, rfl, by (first | rfl | omega | (dsimp only; omega) | (simp; done) | (simp; omega) | (simp [LstSt.init, LstSt.step, LstInv.init, CntSt.init, CntSt.step, CntInv.init, WhlSt.init, WhlSt.step]; done) | (simp [LstSt.init, LstSt.step, LstInv.init, CntSt.init, CntSt.step, CntInv.init, WhlSt.init, WhlSt.step]; omega))⟩, rfl, trivial⟩, ⟨⟨rfl, rfl, rfl⟩, trivial⟩, trivial⟩⟩
    have q2 := ord_bd (by have q1 := hI1.1; omega) x2.e
    refine .inr (.inr (.inr ⟨(.q 1 (.q 2 (.q 3 (.q 5 (.q 8 (.q 9 (.q 10 (.b 0 (.b 4 (.o 6 (.o 7 (.o 11 (.o 12 .leaf)))) 6 (.o 4 (.o 7 (.o 11 (.o 12 .leaf))))) 6 (.o 0 (.o 4 (.o 7 (.o 11 (.o 12 .leaf))))))))))))), by kernel_rfl, ?_⟩))
    refine And.intro (by have q1 := hI1.1; first | exact ⟨by omega, by omega, by omega⟩ | (first | omega | (dsimp only <;> omega) | (simp (disch := omega) only [wrap_small, mid_eq, mid_eq1, mid_eq2, mid_eq3, List.length_map, List.length_set] <;> omega) | (simp (disch := omega) only [wrap_small, mid_eq, mid_eq1, mid_eq2, mid_eq3, List.length_map, List.length_set] at * <;> omega))) ?_
    refine And.intro (by have q1 := hI1.1; first | exact ⟨by omega, by omega, by omega⟩ | (first | omega | (dsimp only <;> omega) | (simp (disch := omega) only [wrap_small, mid_eq, mid_eq1, mid_eq2, mid_eq3, List.length_map, List.length_set] <;> omega) | (simp (disch := omega) only [wrap_small, mid_eq, mid_eq1, mid_eq2, mid_eq3, List.length_map, List.length_set] at * <;> omega))) ?_
    refine And.intro ?_ ?_
    · refine litE (m := 1) rfl ?_
      refine And.intro ?_ ?_
      · refine .inl ?_
        refine rowsE (Y := List.map cInt (List.take ((x2.s).toNat - 0) (List.drop 0 x1.s))) (by first | rfl | (simp [subR0, subR1, -List.map_take, -List.map_drop, take_map', drop_map', fz_cInt, fl_cInt, fzMap fz_cInt, flMap fl_cInt]; done) | (simp [subR0, subR1, -List.map_take, -List.map_drop, take_map', drop_map', fz_cInt, fl_cInt, fzMap fz_cInt, flMap fl_cInt]; rfl)) ?_
        refine appB (b := 8) (hs := by have q1 := hI1.1; have q3 := hi1; refine ⟨?_, ?_⟩; (show List.length _ * 8 ≤ _); (try simp only [List.length_map, List.length_append, List.length_take, List.length_drop, List.length_cons, List.length_nil]); omega; (try simp only [List.length_map, List.length_append, List.length_take, List.length_drop, List.length_cons, List.length_nil]); omega) ?_
        refine litE (m := 2) rfl ?_
        refine litE (m := 3) rfl ?_
        refine .inl ?_
        refine rowsE (Y := List.map cInt ((List.take ((x2.s).toNat - 0) (List.drop 0 x1.s)) ++ [((x1.i : Nat) : Int)])) (by first | rfl | (simp [subR0, subR1, -List.map_take, -List.map_drop, take_map', drop_map', fz_cInt, fl_cInt, fzMap fz_cInt, flMap fl_cInt]; done) | (simp [subR0, subR1, -List.map_take, -List.map_drop, take_map', drop_map', fz_cInt, fl_cInt, fzMap fz_cInt, flMap fl_cInt]; rfl)) ?_
        refine appB (b := 8) (hs := by have q1 := hI1.1; have q3 := hi1; refine ⟨?_, ?_⟩; (show List.length _ * 8 ≤ _); (try simp only [List.length_map, List.length_append, List.length_take, List.length_drop, List.length_cons, List.length_nil]); omega; (try simp only [List.length_map, List.length_append, List.length_take, List.length_drop, List.length_cons, List.length_nil]); omega) ?_
        refine litE (m := 4) rfl ?_
        refine .inl ?_
        refine rowsE (Y := List.map cInt (((List.take ((x2.s).toNat - 0) (List.drop 0 x1.s)) ++ [((x1.i : Nat) : Int)]) ++ (List.take ((x1.s).length - (x2.s).toNat) (List.drop (x2.s).toNat x1.s)))) (by first | rfl | (simp [subR0, subR1, -List.map_take, -List.map_drop, take_map', drop_map', fz_cInt, fl_cInt, fzMap fz_cInt, flMap fl_cInt]; done) | (simp [subR0, subR1, -List.map_take, -List.map_drop, take_map', drop_map', fz_cInt, fl_cInt, fzMap fz_cInt, flMap fl_cInt]; rfl)) ?_
        refine appB (b := 8) (hs := by have q1 := hI1.1; have q3 := hi1; refine ⟨?_, ?_⟩; (show List.length _ * 8 ≤ _); (try simp only [List.length_map, List.length_append, List.length_take, List.length_drop, List.length_cons, List.length_nil]); omega; (try simp only [List.length_map, List.length_append, List.length_take, List.length_drop, List.length_cons, List.length_nil]); omega) ?_
        refine litE (m := 5) rfl ?_
        exact x1.goE hi1 hb1 (by first | exact ors_keep hI1 | exact ors_ins hI1 _ q2) [some 5] ⟨rfl, ⟨⟨rfl, rfl, rfl, rfl, by (first | rfl | omega | (dsimp only; omega) | (simp; done) | (simp; omega) | (simp [LstSt.init, LstSt.step, LstInv.init, CntSt.init, CntSt.step, CntInv.init, WhlSt.init, WhlSt.step]; done) | (simp [LstSt.init, LstSt.step, LstInv.init, CntSt.init, CntSt.step, CntInv.init, WhlSt.init, WhlSt.step]; omega))⟩, (eqInt hw1), rfl, trivial⟩, ⟨⟨rfl, rfl, rfl⟩, trivial⟩, trivial⟩
      refine litE (m := 2) rfl ?_
      refine .inl ?_
      refine rowsE (Y := List.map cInt (List.take ((x2.s).toNat - 0) (List.drop 0 x1.s))) (by first | rfl | (simp [subR0, subR1, -List.map_take, -List.map_drop, take_map', drop_map', fz_cInt, fl_cInt, fzMap fz_cInt, flMap fl_cInt]; done) | (simp [subR0, subR1, -List.map_take, -List.map_drop, take_map', drop_map', fz_cInt, fl_cInt, fzMap fz_cInt, flMap fl_cInt]; rfl)) ?_
      refine appB (b := 8) (hs := by have q1 := hI1.1; have q3 := hi1; refine ⟨?_, ?_⟩; (show List.length _ * 8 ≤ _); (try simp only [List.length_map, List.length_append, List.length_take, List.length_drop, List.length_cons, List.length_nil]); omega; (try simp only [List.length_map, List.length_append, List.length_take, List.length_drop, List.length_cons, List.length_nil]); omega) ?_
      refine litE (m := 3) rfl ?_
      refine .inl ?_
      refine rowsE (Y := List.map cInt ((List.take ((x2.s).toNat - 0) (List.drop 0 x1.s)) ++ [((x1.i : Nat) : Int)])) (by first | rfl | (simp [subR0, subR1, -List.map_take, -List.map_drop, take_map', drop_map', fz_cInt, fl_cInt, fzMap fz_cInt, flMap fl_cInt]; done) | (simp [subR0, subR1, -List.map_take, -List.map_drop, take_map', drop_map', fz_cInt, fl_cInt, fzMap fz_cInt, flMap fl_cInt]; rfl)) ?_
      refine appB (b := 8) (hs := by have q1 := hI1.1; have q3 := hi1; refine ⟨?_, ?_⟩; (show List.length _ * 8 ≤ _); (try simp only [List.length_map, List.length_append, List.length_take, List.length_drop, List.length_cons, List.length_nil]); omega; (try simp only [List.length_map, List.length_append, List.length_take, List.length_drop, List.length_cons, List.length_nil]); omega) ?_
      refine litE (m := 4) rfl ?_
      refine .inl ?_
      refine rowsE (Y := List.map cInt (((List.take ((x2.s).toNat - 0) (List.drop 0 x1.s)) ++ [((x1.i : Nat) : Int)]) ++ (List.take ((x1.s).length - (x2.s).toNat) (List.drop (x2.s).toNat x1.s)))) (by first | rfl | (simp [subR0, subR1, -List.map_take, -List.map_drop, take_map', drop_map', fz_cInt, fl_cInt, fzMap fz_cInt, flMap fl_cInt]; done) | (simp [subR0, subR1, -List.map_take, -List.map_drop, take_map', drop_map', fz_cInt, fl_cInt, fzMap fz_cInt, flMap fl_cInt]; rfl)) ?_
      refine appB (b := 8) (hs := by have q1 := hI1.1; have q3 := hi1; refine ⟨?_, ?_⟩; (show List.length _ * 8 ≤ _); (try simp only [List.length_map, List.length_append, List.length_take, List.length_drop, List.length_cons, List.length_nil]); omega; (try simp only [List.length_map, List.length_append, List.length_take, List.length_drop, List.length_cons, List.length_nil]); omega) ?_
      refine litE (m := 5) rfl ?_
      exact x1.goE hi1 hb1 (by first | exact ors_keep hI1 | exact ors_ins hI1 _ q2) [some 5] ⟨rfl, ⟨⟨rfl, rfl, rfl, rfl, by (first | rfl | omega | (dsimp only; omega) | (simp; done) | (simp; omega) | (simp [LstSt.init, LstSt.step, LstInv.init, CntSt.init, CntSt.step, CntInv.init, WhlSt.init, WhlSt.step]; done) | (simp [LstSt.init, LstSt.step, LstInv.init, CntSt.init, CntSt.step, CntInv.init, WhlSt.init, WhlSt.step]; omega))⟩, (eqInt hw1), rfl, trivial⟩, ⟨⟨rfl, rfl, rfl⟩, trivial⟩, trivial⟩
    refine litE (m := 1) rfl ?_
    refine litE (m := 2) rfl ?_
    refine .inl ?_
    refine rowsE (Y := List.map cInt (List.take ((x2.s).toNat - 0) (List.drop 0 x1.s))) (by first | rfl | (simp [subR0, subR1, -List.map_take, -List.map_drop, take_map', drop_map', fz_cInt, fl_cInt, fzMap fz_cInt, flMap fl_cInt]; done) | (simp [subR0, subR1, -List.map_take, -List.map_drop, take_map', drop_map', fz_cInt, fl_cInt, fzMap fz_cInt, flMap fl_cInt]; rfl)) ?_
    refine appB (b := 8) (hs := by have q1 := hI1.1; have q3 := hi1; refine ⟨?_, ?_⟩; (show List.length _ * 8 ≤ _); (try simp only [List.length_map, List.length_append, List.length_take, List.length_drop, List.length_cons, List.length_nil]); omega; (try simp only [List.length_map, List.length_append, List.length_take, List.length_drop, List.length_cons, List.length_nil]); omega) ?_
    refine litE (m := 3) rfl ?_
    refine .inl ?_
    refine rowsE (Y := List.map cInt ((List.take ((x2.s).toNat - 0) (List.drop 0 x1.s)) ++ [((x1.i : Nat) : Int)])) (by first | rfl | (simp [subR0, subR1, -List.map_take, -List.map_drop, take_map', drop_map', fz_cInt, fl_cInt, fzMap fz_cInt, flMap fl_cInt]; done) | (simp [subR0, subR1, -List.map_take, -List.map_drop, take_map', drop_map', fz_cInt, fl_cInt, fzMap fz_cInt, flMap fl_cInt]; rfl)) ?_
    refine appB (b := 8) (hs := by have q1 := hI1.1; have q3 := hi1; refine ⟨?_, ?_⟩; (show List.length _ * 8 ≤ _); (try simp only [List.length_map, List.length_append, List.length_take, List.length_drop, List.length_cons, List.length_nil]); omega; (try simp only [List.length_map, List.length_append, List.length_take, List.length_drop, List.length_cons, List.length_nil]); omega) ?_
    refine litE (m := 4) rfl ?_
    refine .inl ?_
    refine rowsE (Y := List.map cInt (((List.take ((x2.s).toNat - 0) (List.drop 0 x1.s)) ++ [((x1.i : Nat) : Int)]) ++ (List.take ((x1.s).length - (x2.s).toNat) (List.drop (x2.s).toNat x1.s)))) (by first | rfl | (simp [subR0, subR1, -List.map_take, -List.map_drop, take_map', drop_map', fz_cInt, fl_cInt, fzMap fz_cInt, flMap fl_cInt]; done) | (simp [subR0, subR1, -List.map_take, -List.map_drop, take_map', drop_map', fz_cInt, fl_cInt, fzMap fz_cInt, flMap fl_cInt]; rfl)) ?_
    refine appB (b := 8) (hs := by have q1 := hI1.1; have q3 := hi1; refine ⟨?_, ?_⟩; (show List.length _ * 8 ≤ _); (try simp only [List.length_map, List.length_append, List.length_take, List.length_drop, List.length_cons, List.length_nil]); omega; (try simp only [List.length_map, List.length_append, List.length_take, List.length_drop, List.length_cons, List.length_nil]); omega) ?_
    refine litE (m := 5) rfl ?_
    exact x1.goE hi1 hb1 (by first | exact ors_keep hI1 | exact ors_ins hI1 _ q2) [some 5] ⟨rfl, ⟨⟨rfl, rfl, rfl, rfl, by (first | rfl | omega | (dsimp only; omega) | (simp; done) | (simp; omega) | (simp [LstSt.init, LstSt.step, LstInv.init, CntSt.init, CntSt.step, CntInv.init, WhlSt.init, WhlSt.step]; done) | (simp [LstSt.init, LstSt.step, LstInv.init, CntSt.init, CntSt.step, CntInv.init, WhlSt.init, WhlSt.step]; omega))⟩, (eqInt hw1), rfl, trivial⟩, ⟨⟨rfl, rfl, rfl⟩, trivial⟩, trivial⟩
  have hg := finE hg (x1.fin hi1)
  refine seqE ?_
  exact leafE hown hg
theorem spec_Order_ok (p0 : List Deed) (h : p0.length ≤ 1048576) : OrdOk Deed.Lin p0 (spec_Order p0) := o_ok Deed.Lin p0 h
def spec_l3Copy (p0 : Span) : Span :=
  p0
theorem c_spec_l3Copy (p0 : Span) (hs : p0.Attrs.length ≤ 1048576) : FnOk prog 113 [.agg ((Span.cells false) p0)] ⟨.agg ((Span.cells true) (spec_l3Copy p0)), [], [], false⟩ := by
  refine FnOk.intro (E := env) envOk wide func113 rfl (by kernel_rfl) rfl rfl ?_
  have hg := spec_l3Copy.eq_1 p0
  have hown : ∀ g : Span, AV.Own (AV.agg ((Span.cells true) g)) := fun g => own_Span _
  refine seqE ?_
  refine litE (m := 0) rfl ?_
  refine litE (m := 1) rfl ?_
  refine seqE ?_
  refine litE (m := 2) rfl ?_
  refine .inl ?_
  refine rowsE (Y := List.map Attr.cells p0.Attrs) (by first | rfl | (simp [subR0, subR1, -List.map_take, -List.map_drop, take_map', drop_map', fz_Attr, fl_Attr, fzMap fz_Attr, flMap fl_Attr]; done) | (simp [subR0, subR1, -List.map_take, -List.map_drop, take_map', drop_map', fz_Attr, fl_Attr, fzMap fz_Attr, flMap fl_Attr]; rfl)) ?_
  refine appB (b := 48) (hs := by have q0 := hs; refine ⟨?_, ?_⟩; (show List.length _ * 48 ≤ _); (try simp only [List.length_map, List.length_append, List.length_cons, List.length_nil]); omega; (try simp only [List.length_map, List.length_append, List.length_cons, List.length_nil]); omega) ?_
  refine litE (m := 3) rfl ?_
  refine seqE ?_
  exact leafE hown hg
def spec_Accepted_j2 (p0 : (List Deed)) (a1 : Int) (p1 : Int) (s1 : (List Span)) : Step (Bool × Bool × Bool) (Step ((List Span)) (List Span)) :=
  (bif ((p0[(a1).toNat]?.getD default).Op == 1) then (bif ((p0[(a1).toNat]?.getD default).Stamp == p1) then (bif ((p0[(a1).toNat]?.getD default).Code == 1) then (.next (true, true, true)) else (.next (false, ((p0[(a1).toNat]?.getD default).Code == 2), ((p0[(a1).toNat]?.getD default).Code == 2)))) else (.done (.next s1))) else (.done (.next s1)))
def spec_Accepted_b1 (p0 : (List Deed)) (p1 : Int) (i1 : Nat) (s1 : (List Span)) (a1 : Int) : Step ((List Span)) (List Span) :=
  (Step.get (fun s2 => (bif s2.2.2 then (.next (s1 ++ [(spec_l3Copy (p0[(a1).toNat]?.getD default).S)])) else (.next s1))) (spec_Accepted_j2 p0 a1 p1 s1))
def spec_Accepted (p0 : (List Deed)) (p1 : Int) : (List Span) :=
  (Fin.get (fun s1 => s1) (loopL (spec_Accepted_b1 p0 p1) 0 ([] : List Span) (spec_Order p0)))
theorem c_spec_Accepted (p0 : (List Deed)) (p1 : Int) (hs : bdS Deed.bd 1048576 p0) : FnOk prog 42 [.one (.s false 20 (List.map (Deed.cells false) p0)), .one (.v (.int .i64 p1))] ⟨.one (.s true 6 (List.map (Span.cells true) (spec_Accepted p0 p1))), [], [], false⟩ := by
  refine FnOk.intro (E := env) envOk wide func42 rfl (by kernel_rfl) rfl rfl ?_
  have hg := spec_Accepted.eq_1 p0 p1
  have hown : ∀ g : (List Span), AV.Own (AV.one (.s true 6 (List.map (Span.cells true) g))) := fun g => ownSl own_Span _
  refine seqE ?_
  refine seqE ?_
  refine litE (m := 0) rfl ?_
  refine seqE ?_
  refine .inl (⟨_, _, c_spec_Order p0 (by first | exact hs.1 | exact (hs.2 _ (getD_memI ((spec_Order_ok p0 hs.1).mem (List.getElem_mem hi1)))).1), (FzAs.same _), ?_⟩)
  refine litE (m := 2) rfl ?_
  refine seqE ?_
  refine seqE ?_
  refine loopLI (fun (i : Nat) s => s.length ≤ i) hg (Nat.le_refl _) [0, 1, 6] (fun x1 => [(5, .one (.n 0 [] 1 0 (x1.s).length)), (7, .one (.v (.int .i64 ((x1.i : Nat) : Int))))]) (fun x1 => [.new ⟨6, false, List.map (Span.cells true) x1.s, 0⟩, .dead, .keep 2]) [some 0, none, some 2] ?_ (fun x1 => ?_)
  · exact ⟨rfl, ⟨⟨rfl, rfl, rfl, rfl, by (first | rfl | omega | (dsimp only; omega) | (simp; done) | (simp; omega) | (simp [LstSt.init, LstSt.step, LstInv.init, CntSt.init, CntSt.step, CntInv.init, WhlSt.init, WhlSt.step]; done) | (simp [LstSt.init, LstSt.step, LstInv.init, CntSt.init, CntSt.step, CntInv.init, WhlSt.init, WhlSt.step]; omega))⟩, rfl, rfl, rfl, ⟨rfl, rfl, rfl, rfl, by (first | rfl | omega | (dsimp only; omega) | (simp; done) | (simp; omega) | (simp [LstSt.init, LstSt.step, LstInv.init, CntSt.init, CntSt.step, CntInv.init, WhlSt.init, WhlSt.step]; done) | (simp [LstSt.init, LstSt.step, LstInv.init, CntSt.init, CntSt.step, CntInv.init, WhlSt.init, WhlSt.step]; omega))⟩, trivial⟩, ⟨⟨rfl, rfl, rfl⟩, ⟨rfl, rfl, rfl⟩, trivial⟩, trivial⟩
  have hI1 := x1.hI
  try dsimp only at hI1
  refine seqE ?_
  refine seqE ?_
  refine lenE (k := ((spec_Order p0)).length) (by simp) (fun hN1 => ?_)
  refine tstL (fun hi1 => ?_) (fun hi1 => ?_)
  · have hb1 := (x1.bdy hi1).trans (spec_Accepted_b1.eq_1 ..)
    have hw1 := wrap_succ hi1 (by first | assumption | omega)
    refine seqE ?_
    refine seqE ?_
    refine andE (by have q := (spec_Order_ok p0 hs.1).mem (List.getElem_mem hi1); (first | omega | (dsimp only <;> omega) | (simp (disch := omega) only [wrap_small, mid_eq, mid_eq1, mid_eq2, mid_eq3, List.length_map, List.length_set] <;> omega) | (simp (disch := omega) only [wrap_small, mid_eq, mid_eq1, mid_eq2, mid_eq3, List.length_map, List.length_set] at * <;> omega))) ?_
    refine rowAtE (i := x1.i) (l := (spec_Order p0)) (by first | rfl | exact Nat.zero_add _ | simp) hi1 ?_
    refine idxOf (l := p0) (by have q := (spec_Order_ok p0 hs.1).mem (List.getElem_mem hi1); (first | omega | (dsimp only <;> omega) | (simp (disch := omega) only [wrap_small, mid_eq, mid_eq1, mid_eq2, mid_eq3, List.length_map, List.length_set] <;> omega) | (simp (disch := omega) only [wrap_small, mid_eq, mid_eq1, mid_eq2, mid_eq3, List.length_map, List.length_set] at * <;> omega))) (fun hq2 => ?_)
    refine litE (m := 3) rfl ?_
    refine joinE hb1 [0, 1, 5, 6, 7, 8] (fun x2 => [(29, .one (.p 3 [] 0 0 9)), (30, .one (.v (.int .i64 (p0[(((spec_Order p0)[x1.i]'hi1)).toNat]?.getD default).Stamp))), (31, .one (.v (.int .i64 p1))), (32, .one (.v (.bool ((p0[(((spec_Order p0)[x1.i]'hi1)).toNat]?.getD default).Stamp == p1)))), (35, .one (.p 3 [] 0 0 10)), (36, .one (.v (.int .i64 (p0[(((spec_Order p0)[x1.i]'hi1)).toNat]?.getD default).Code))), (37, .one (.v (.bool ((p0[(((spec_Order p0)[x1.i]'hi1)).toNat]?.getD default).Code == 1)))), (38, .one (.v (.bool x2.s.1))), (42, .one (.v (.bool x2.s.2.1))), (43, .one (.v (.bool x2.s.2.2)))]) (fun x2 => [.keep 0, .dead, .keep 2, .keep 3]) (fun hb2 => ?_) (fun x2 hb1 => ?_)
    · have hb2 := hb2.trans (spec_Accepted_j2.eq_1 ..)
      refine brQ hb2 (fun hb2 h3 => ?_) (fun hb2 h3 => ?_)
      · refine brQ hb2 (fun hb2 h4 => brQF hb2 (fun hb2 h5 => .inl ⟨⟨_, hb2⟩, [some 0, none, some 2, some 3], ⟨rfl, ⟨⟨rfl, rfl, rfl, rfl⟩, rfl, rfl, rfl, ⟨rfl, rfl, rfl, rfl⟩, rfl, rfl, rfl, rfl, rfl, rfl, rfl, ⟨rfl, rfl, rfl, rfl, by (first | rfl | omega | (dsimp only; omega) | (simp; done) | (simp; omega) | (simp [LstSt.init, LstSt.step, LstInv.init, CntSt.init, CntSt.step, CntInv.init, WhlSt.init, WhlSt.step]; done) | (simp [LstSt.init, LstSt.step, LstInv.init, CntSt.init, CntSt.step, CntInv.init, WhlSt.init, WhlSt.step]; omega))⟩, ⟨rfl, rfl, rfl, rfl, by (first | rfl | omega | (dsimp only; omega) | (simp; done) | (simp; omega) | (simp [LstSt.init, LstSt.step, LstInv.init, CntSt.init, CntSt.step, CntInv.init, WhlSt.init, WhlSt.step]; done) | (simp [LstSt.init, LstSt.step, LstInv.init, CntSt.init, CntSt.step, CntInv.init, WhlSt.init, WhlSt.step]; omega))⟩, rfl, ⟨rfl, rfl, rfl, rfl⟩, trivial⟩, ⟨⟨rfl, rfl, rfl⟩, ⟨rfl, rfl, rfl⟩, ⟨rfl, rfl, ⟨rfl, rfl, rfl, rfl, rfl, rfl, rfl, rfl, rfl, rfl, rfl, rfl, rfl, rfl, rfl, rfl, rfl, rfl, rfl, rfl, trivial⟩⟩, trivial⟩, trivial⟩⟩) (fun hb2 h5 => .inl ⟨⟨_, hb2⟩, [some 0, none, some 2, some 3], ⟨rfl, ⟨⟨rfl, rfl, rfl, rfl⟩, rfl, rfl, rfl, ⟨rfl, rfl, rfl, rfl⟩, rfl, rfl, rfl, rfl, rfl, rfl, rfl, ⟨rfl, rfl, rfl, rfl, by (first | rfl | omega | (dsimp only; omega) | (simp; done) | (simp; omega) | (simp [LstSt.init, LstSt.step, LstInv.init, CntSt.init, CntSt.step, CntInv.init, WhlSt.init, WhlSt.step]; done) | (simp [LstSt.init, LstSt.step, LstInv.init, CntSt.init, CntSt.step, CntInv.init, WhlSt.init, WhlSt.step]; omega))⟩, ⟨rfl, rfl, rfl, rfl, by (first | rfl | omega | (dsimp only; omega) | (simp; done) | (simp; omega) | (simp [LstSt.init, LstSt.step, LstInv.init, CntSt.init, CntSt.step, CntInv.init, WhlSt.init, WhlSt.step]; done) | (simp [LstSt.init, LstSt.step, LstInv.init, CntSt.init, CntSt.step, CntInv.init, WhlSt.init, WhlSt.step]; omega))⟩, rfl, ⟨rfl, rfl, rfl, rfl⟩, trivial⟩, ⟨⟨rfl, rfl, rfl⟩, ⟨rfl, rfl, rfl⟩, ⟨rfl, rfl, ⟨rfl, rfl, rfl, rfl, rfl, rfl, rfl, rfl, rfl, rfl, rfl, rfl, rfl, rfl, rfl, rfl, rfl, rfl, rfl, rfl, trivial⟩⟩, trivial⟩, trivial⟩⟩)) (fun hb2 h4 => ?_)
        refine .inr ?_
        have hb1 := getD hb1 hb2
        exact x1.goE hi1 hb1 (by first | (have q1 := hI1; simp only [List.length_append, List.length_cons, List.length_nil]; omega) | exact Nat.le_succ_of_le hI1) [some 0, none, some 2] ⟨rfl, ⟨⟨rfl, rfl, rfl, rfl, by (first | rfl | omega | (dsimp only; omega) | (simp; done) | (simp; omega) | (simp [LstSt.init, LstSt.step, LstInv.init, CntSt.init, CntSt.step, CntInv.init, WhlSt.init, WhlSt.step]; done) | (simp [LstSt.init, LstSt.step, LstInv.init, CntSt.init, CntSt.step, CntInv.init, WhlSt.init, WhlSt.step]; omega))⟩, (eqInt hw1), rfl, rfl, ⟨rfl, rfl, rfl, rfl, by (first | rfl | omega | (dsimp only; omega) | (simp; done) | (simp; omega) | (simp [LstSt.init, LstSt.step, LstInv.init, CntSt.init, CntSt.step, CntInv.init, WhlSt.init, WhlSt.step]; done) | (simp [LstSt.init, LstSt.step, LstInv.init, CntSt.init, CntSt.step, CntInv.init, WhlSt.init, WhlSt.step]; omega))⟩, trivial⟩, ⟨⟨rfl, rfl, rfl⟩, ⟨rfl, rfl, rfl⟩, trivial⟩, trivial⟩
      · refine .inr ?_
        have hb1 := getD hb1 hb2
        exact x1.goE hi1 hb1 (by first | (have q1 := hI1; simp only [List.length_append, List.length_cons, List.length_nil]; omega) | exact Nat.le_succ_of_le hI1) [some 0, none, some 2] ⟨rfl, ⟨⟨rfl, rfl, rfl, rfl, by (first | rfl | omega | (dsimp only; omega) | (simp; done) | (simp; omega) | (simp [LstSt.init, LstSt.step, LstInv.init, CntSt.init, CntSt.step, CntInv.init, WhlSt.init, WhlSt.step]; done) | (simp [LstSt.init, LstSt.step, LstInv.init, CntSt.init, CntSt.step, CntInv.init, WhlSt.init, WhlSt.step]; omega))⟩, (eqInt hw1), rfl, rfl, ⟨rfl, rfl, rfl, rfl, by (first | rfl | omega | (dsimp only; omega) | (simp; done) | (simp; omega) | (simp [LstSt.init, LstSt.step, LstInv.init, CntSt.init, CntSt.step, CntInv.init, WhlSt.init, WhlSt.step]; done) | (simp [LstSt.init, LstSt.step, LstInv.init, CntSt.init, CntSt.step, CntInv.init, WhlSt.init, WhlSt.step]; omega))⟩, trivial⟩, ⟨⟨rfl, rfl, rfl⟩, ⟨rfl, rfl, rfl⟩, trivial⟩, trivial⟩
    refine brE hb1 (fun hb1 h6 => ?_) (fun hb1 h6 => x1.goE hi1 hb1 (by first | (have q1 := hI1; simp only [List.length_append, List.length_cons, List.length_nil]; omega) | exact Nat.le_succ_of_le hI1) [some 0, none, some 2] ⟨rfl, ⟨⟨rfl, rfl, rfl, rfl, by (first | rfl | omega | (dsimp only; omega) | (simp; done) | (simp; omega) | (simp [LstSt.init, LstSt.step, LstInv.init, CntSt.init, CntSt.step, CntInv.init, WhlSt.init, WhlSt.step]; done) | (simp [LstSt.init, LstSt.step, LstInv.init, CntSt.init, CntSt.step, CntInv.init, WhlSt.init, WhlSt.step]; omega))⟩, (eqInt hw1), rfl, rfl, ⟨rfl, rfl, rfl, rfl, by (first | rfl | omega | (dsimp only; omega) | (simp; done) | (simp; omega) | (simp [LstSt.init, LstSt.step, LstInv.init, CntSt.init, CntSt.step, CntInv.init, WhlSt.init, WhlSt.step]; done) | (simp [LstSt.init, LstSt.step, LstInv.init, CntSt.init, CntSt.step, CntInv.init, WhlSt.init, WhlSt.step]; omega))⟩, trivial⟩, ⟨⟨rfl, rfl, rfl⟩, ⟨rfl, rfl, rfl⟩, trivial⟩, trivial⟩)
    refine .inl (⟨_, _, c_spec_l3Copy (p0[(((spec_Order p0)[x1.i]'hi1)).toNat]?.getD default).S (by first | exact hs.1 | exact (hs.2 _ (getD_memI ((spec_Order_ok p0 hs.1).mem (List.getElem_mem hi1)))).1), (FzAs.same _), ?_⟩)
    refine litE (m := 5) rfl ?_
    refine litE (m := 6) rfl ?_
    refine .inl ?_
    refine rowsE (Y := List.map (Span.cells true) (x1.s ++ [(spec_l3Copy (p0[(((spec_Order p0)[x1.i]'hi1)).toNat]?.getD default).S)])) (by first | rfl | (simp [subR0, subR1, -List.map_take, -List.map_drop, take_map', drop_map', fz_Span, fzMap fz_Span, shMap sh_Span]; done) | (simp [subR0, subR1, -List.map_take, -List.map_drop, take_map', drop_map', fz_Span, fzMap fz_Span, shMap sh_Span]; rfl)) ?_
    refine appB (b := 64) (hs := by have q0 := hs.1; have q1 := hI1; have q2 := hi1; have q3 := (spec_Order_ok p0 hs.1).len; refine ⟨?_, ?_⟩; (show List.length _ * 64 ≤ _); (try simp only [List.length_map, List.length_append, List.length_cons, List.length_nil]); omega; (try simp only [List.length_map, List.length_append, List.length_cons, List.length_nil]); omega) ?_
    refine litE (m := 7) rfl ?_
    exact x1.goE hi1 hb1 (by first | (have q1 := hI1; simp only [List.length_append, List.length_cons, List.length_nil]; omega) | exact Nat.le_succ_of_le hI1) [some 7, none, some 2] ⟨rfl, ⟨⟨rfl, rfl, rfl, rfl, by (first | rfl | omega | (dsimp only; omega) | (simp; done) | (simp; omega) | (simp [LstSt.init, LstSt.step, LstInv.init, CntSt.init, CntSt.step, CntInv.init, WhlSt.init, WhlSt.step]; done) | (simp [LstSt.init, LstSt.step, LstInv.init, CntSt.init, CntSt.step, CntInv.init, WhlSt.init, WhlSt.step]; omega))⟩, (eqInt hw1), rfl, rfl, ⟨rfl, rfl, rfl, rfl, by (first | rfl | omega | (dsimp only; omega) | (simp; done) | (simp; omega) | (simp [LstSt.init, LstSt.step, LstInv.init, CntSt.init, CntSt.step, CntInv.init, WhlSt.init, WhlSt.step]; done) | (simp [LstSt.init, LstSt.step, LstInv.init, CntSt.init, CntSt.step, CntInv.init, WhlSt.init, WhlSt.step]; omega))⟩, trivial⟩, ⟨⟨rfl, rfl, rfl⟩, ⟨rfl, rfl, rfl⟩, trivial⟩, trivial⟩
  have hg := finE hg (x1.fin hi1)
  refine seqE ?_
  exact leafE hown hg
def cmp_isNaN_int (p0 : Int) : Bool :=
  (p0 != p0)
theorem c_cmp_isNaN_int (p0 : Int) : FnOk prog 228 [.one (.v (.int .i64 p0))] ⟨.one (.v (.bool (cmp_isNaN_int p0))), [], [], false⟩ := by
  refine FnOk.intro (E := env) envOk wide func228 rfl (by kernel_rfl) rfl rfl ?_
  have hg := cmp_isNaN_int.eq_1 p0
  have hown : ∀ g : Bool, AV.Own (AV.one (.v (.bool g))) := fun g => .v _
  refine seqE ?_
  refine seqE ?_
  exact leafE hown hg
def cmp_Compare_int (p0 : Int) (p1 : Int) : Int :=
  (bif (cmp_isNaN_int p0) then (bif (cmp_isNaN_int p1) then 0 else (-1)) else (bif (cmp_isNaN_int p1) then 1 else (bif (decide (p0 < p1)) then (-1) else (bif (decide (p0 > p1)) then 1 else 0))))
theorem c_cmp_Compare_int (p0 : Int) (p1 : Int) : FnOk prog 204 [.one (.v (.int .i64 p0)), .one (.v (.int .i64 p1))] ⟨.one (.v (.int .i64 (cmp_Compare_int p0 p1))), [], [], false⟩ := by
  refine FnOk.intro (E := env) envOk wide func204 rfl (by kernel_rfl) rfl rfl ?_
  have hg := cmp_Compare_int.eq_1 p0 p1
  have hown : ∀ g : Int, AV.Own (AV.one (.v (.int .i64 g))) := fun g => .v _
  refine seqE ?_
  refine seqE ?_
  refine .inl (⟨_, _, c_cmp_isNaN_int p0, (FzAs.same _), ?_⟩)
  refine litE (m := 1) rfl ?_
  refine seqE ?_
  refine .inl (⟨_, _, c_cmp_isNaN_int p1, (FzAs.same _), ?_⟩)
  refine litE (m := 2) rfl ?_
  refine seqE ?_
  refine seqE ?_
  refine brE hg (fun hg h1 => ?_) (fun hg h1 => ?_)
  · refine seqE ?_
    refine seqE ?_
    refine brE hg (fun hg h2 => ?_) (fun hg h2 => ?_)
    · refine seqE ?_
      exact leafE hown hg
    · refine seqE ?_
      exact leafE hown hg
  · refine seqE ?_
    refine seqE ?_
    refine brE hg (fun hg h3 => ?_) (fun hg h3 => ?_)
    · refine seqE ?_
      exact leafE hown hg
    · refine seqE ?_
      refine seqE ?_
      refine brD hg (fun hg h4 => ?_) (fun hg h4 => ?_)
      · refine seqE ?_
        exact leafE hown hg
      · refine seqE ?_
        refine seqE ?_
        refine brD hg (fun hg h5 => ?_) (fun hg h5 => ?_)
        · refine seqE ?_
          exact leafE hown hg
        · refine seqE ?_
          exact leafE hown hg
def impl_Order_1 (p0 : Int) (p1 : Int) (c0 : (List Deed)) : Int :=
  (cmp_Compare_int (c0[(p0).toNat]?.getD default).Lin (c0[(p1).toNat]?.getD default).Lin)
theorem c_impl_Order_1 (p0 : Int) (p1 : Int) (c0 : (List Deed)) (hx : 0 ≤ p0 ∧ p0 < ((c0.length : Nat) : Int)) (hy : 0 ≤ p1 ∧ p1 < ((c0.length : Nat) : Int)) : FnOk prog 203 [.one (.v (.int .i64 p0)), .one (.v (.int .i64 p1)), .one (.q 1 [[.s false 20 (List.map (Deed.cells false) c0)]] 0 0)] ⟨.one (.v (.int .i64 (impl_Order_1 p0 p1 c0))), [], [], false⟩ := by
  refine FnOk.intro (E := env) envOk wide func203 rfl (by kernel_rfl) rfl rfl ?_
  have hg := impl_Order_1.eq_1 p0 p1 c0
  have hown : ∀ g : Int, AV.Own (AV.one (.v (.int .i64 g))) := fun g => .v _
  refine seqE ?_
  refine seqE ?_
  refine .inl ⟨by kernel_rfl, ?_⟩
  refine idxOf (l := c0) (by (first | omega | (simp (disch := omega) only [wrap_small, mid_eq, List.length_map]; omega) | (simp; done) | (simp; omega) | (simp at *; omega) | (simp at *; done) | (simp_all; done) | (simp_all; omega))) (fun hq1 => ?_)
  refine idxOf (l := c0) (by (first | omega | (simp (disch := omega) only [wrap_small, mid_eq, List.length_map]; omega) | (simp; done) | (simp; omega) | (simp at *; omega) | (simp at *; done) | (simp_all; done) | (simp_all; omega))) (fun hq2 => ?_)
  refine ⟨_, _, c_cmp_Compare_int (c0[(p0).toNat]?.getD default).Lin (c0[(p1).toNat]?.getD default).Lin, (FzAs.same _), ?_⟩
  exact leafE hown hg
def slices_insertionSortCmpFunc_int_c_impl_Order_1_b2 (p1 : Int) (p3_0 : (List Deed)) (s2 : (List Int) × Int) : Step ((List Int) × Int) (Step ((List Int)) (List Int)) :=
  (bif (decide (s2.2 > p1)) then (bif (decide ((impl_Order_1 (s2.1[(s2.2).toNat]?.getD default) (s2.1[((IntKind.i64.wrap (s2.2 - 1))).toNat]?.getD default) p3_0) < 0)) then (.next ((List.set (List.set s2.1 (s2.2).toNat (s2.1[((IntKind.i64.wrap (s2.2 - 1))).toNat]?.getD default)) ((IntKind.i64.wrap (s2.2 - 1))).toNat (s2.1[(s2.2).toNat]?.getD default)), (IntKind.i64.wrap (s2.2 - 1)))) else (.stop (s2.1, s2.2))) else (.stop (s2.1, s2.2)))
def slices_insertionSortCmpFunc_int_c_impl_Order_1_b1 (p1 : Int) (p3_0 : (List Deed)) (i1 : Nat) (s1 : (List Int)) : Step ((List Int)) (List Int) :=
  (Fin.get (fun s2 => (.next s2.1)) (loopW (slices_insertionSortCmpFunc_int_c_impl_Order_1_b2 p1 p3_0) ((fun s : (List Int) × Int => (s.2 - p1).toNat) (s1, ((IntKind.i64.wrap (p1 + 1)) + ((i1 : Nat) : Int)))) (s1, ((IntKind.i64.wrap (p1 + 1)) + ((i1 : Nat) : Int)))))
def slices_insertionSortCmpFunc_int_c_impl_Order_1 (p0 : (List Int)) (p1 : Int) (p2 : Int) (p3_0 : (List Deed)) : (List Int) :=
  (Fin.get (fun s1 => s1) (loopC (slices_insertionSortCmpFunc_int_c_impl_Order_1_b1 p1 p3_0) 0 p0 ((p2 - (IntKind.i64.wrap (p1 + 1)))).toNat))
theorem e_slices_insertionSortCmpFunc_int_c_impl_Order_1 (p0 : List Int) (p1 p2 : Int) (c : List Deed) : slices_insertionSortCmpFunc_int_c_impl_Order_1 p0 p1 p2 c = g_insertionSort p0 p1 p2 (fun x y => impl_Order_1 x y c) := rfl
theorem len_slices_insertionSortCmpFunc_int_c_impl_Order_1 (p0 : List Int) (p1 p2 : Int) (c : List Deed) : (slices_insertionSortCmpFunc_int_c_impl_Order_1 p0 p1 p2 c).length = p0.length := by rw [e_slices_insertionSortCmpFunc_int_c_impl_Order_1]; exact len_g_ins ..
theorem c_slices_insertionSortCmpFunc_int_c_impl_Order_1 (p0 : (List Int)) (p1 : Int) (p2 : Int) (p3_0 : (List Deed)) (hs : (Srt (fun v : Int => 0 ≤ v ∧ v < ((p3_0.length : Nat) : Int)) p0 ∧ p0.length ≤ 288230376151711744) ∧ 0 ≤ p1 ∧ p1 ≤ p2 ∧ p2 ≤ ((p0.length : Nat) : Int)) : FnOk prog 239 [.tup [.one (.s true 1 (List.map cInt p0))], .one (.v (.int .i64 p1)), .one (.v (.int .i64 p2)), .one (.c 203 [.q 1 [[.s false 20 (List.map (Deed.cells false) p3_0)]] 0 0])] ⟨.tup [], [.one (.s true 1 (List.map cInt ((slices_insertionSortCmpFunc_int_c_impl_Order_1 p0 p1 p2 p3_0))))], [], false⟩ := by
  refine FnOk.introM (E := env) envOk wide func239 rfl (by kernel_rfl) rfl ?_
  have hg := slices_insertionSortCmpFunc_int_c_impl_Order_1.eq_1 p0 p1 p2 p3_0
  have hown : (∀ g : (List Int), AV.Own (AV.tup [])) ∧ (fun g : (List Int) => T.s true 1 (List.map cInt (g))) = _ := ⟨fun g => trivial, rfl⟩
  refine seqE ?_
  refine loopCI (fun _ s => (Srt (fun v : Int => 0 ≤ v ∧ v < ((p3_0.length : Nat) : Int)) s ∧ s.length = p0.length)) hg (⟨hs.1.1, rfl⟩) [1, 2, 3] (fun x1 => [(0, .one (.n 1 [] 1 0 (x1.s).length)), (8, .one (.v (.int .i64 ((IntKind.i64.wrap (p1 + 1)) + ((x1.i : Nat) : Int)))))]) (fun x1 => [.dead, .new ⟨1, false, List.map cInt x1.s, 0⟩]) [none, some 1] ?_ (fun x1 => ?_)
  · exact ⟨rfl, ⟨⟨rfl, rfl, rfl, rfl, by (first | rfl | omega | (dsimp only; omega) | (simp; done) | (simp; omega) | (simp [LstSt.init, LstSt.step, LstInv.init, CntSt.init, CntSt.step, CntInv.init, WhlSt.init, WhlSt.step]; done) | (simp [LstSt.init, LstSt.step, LstInv.init, CntSt.init, CntSt.step, CntInv.init, WhlSt.init, WhlSt.step]; omega))⟩, (eqInt (Int.add_zero _).symm), rfl, rfl, ⟨rfl, ⟨rfl, trivial⟩⟩, trivial⟩, ⟨⟨rfl, rfl, rfl⟩, trivial⟩, ⟨⟨rfl, rfl, rfl, rfl, by (first | rfl | omega | (dsimp only; omega) | (simp; done) | (simp; omega) | (simp [LstSt.init, LstSt.step, LstInv.init, CntSt.init, CntSt.step, CntInv.init, WhlSt.init, WhlSt.step]; done) | (simp [LstSt.init, LstSt.step, LstInv.init, CntSt.init, CntSt.step, CntInv.init, WhlSt.init, WhlSt.step]; omega))⟩, trivial⟩⟩
  have hI1 := x1.hI
  try dsimp only at hI1
  refine seqE ?_
  refine seqE ?_
  refine tstB (fun hi1 => ?_) (fun hi1 => ?_)
  · have hb1 := (x1.bdy hi1).trans (slices_insertionSortCmpFunc_int_c_impl_Order_1_b1.eq_1 ..)
    have hw1 := wrapB hi1
    refine seqE ?_
    refine seqE ?_
    refine loopWE (m := (fun s : (List Int) × Int => (s.2 - p1).toNat)) (s0 := (x1.s, ((IntKind.i64.wrap (p1 + 1)) + ((x1.i : Nat) : Int)))) (fun s : (List Int) × Int => (Srt (fun v : Int => 0 ≤ v ∧ v < ((p3_0.length : Nat) : Int)) s.1 ∧ s.1.length = p0.length) ∧ p1 ≤ s.2 ∧ s.2 < p2) hb1 (by exact ⟨hI1, by (first | omega | (dsimp only <;> omega) | (simp (disch := omega) only [wrap_small, mid_eq, mid_eq1, mid_eq2, mid_eq3, List.length_map, List.length_set] <;> omega) | (simp (disch := omega) only [wrap_small, mid_eq, mid_eq1, mid_eq2, mid_eq3, List.length_map, List.length_set] at * <;> omega)), by (first | omega | (dsimp only <;> omega) | (simp (disch := omega) only [wrap_small, mid_eq, mid_eq1, mid_eq2, mid_eq3, List.length_map, List.length_set] <;> omega) | (simp (disch := omega) only [wrap_small, mid_eq, mid_eq1, mid_eq2, mid_eq3, List.length_map, List.length_set] at * <;> omega))⟩) [1, 2, 3, 8] (fun x2 => [(0, .one (.n 1 [] 1 0 (p0).length)), (9, .one (.v (.int .i64 x2.s.2)))]) (fun x2 => [.dead, .new ⟨1, false, List.map cInt x2.s.1, 0⟩]) [none, some 1] ?_ (fun x2 => ?_)
    · exact ⟨rfl, ⟨⟨rfl, rfl, rfl, rfl, by (first | rfl | omega | (dsimp only; omega) | (simp; done) | (simp; omega) | (simp [LstSt.init, LstSt.step, LstInv.init, CntSt.init, CntSt.step, CntInv.init, WhlSt.init, WhlSt.step]; done) | (simp [LstSt.init, LstSt.step, LstInv.init, CntSt.init, CntSt.step, CntInv.init, WhlSt.init, WhlSt.step]; omega))⟩, rfl, rfl, rfl, ⟨rfl, ⟨rfl, trivial⟩⟩, rfl, trivial⟩, ⟨⟨rfl, rfl, rfl⟩, trivial⟩, ⟨⟨rfl, rfl, rfl, rfl, by (first | rfl | omega | (dsimp only; omega) | (simp; done) | (simp; omega) | (simp [LstSt.init, LstSt.step, LstInv.init, CntSt.init, CntSt.step, CntInv.init, WhlSt.init, WhlSt.step]; done) | (simp [LstSt.init, LstSt.step, LstInv.init, CntSt.init, CntSt.step, CntInv.init, WhlSt.init, WhlSt.step]; omega))⟩, trivial⟩⟩
    have hI2 := x2.hI
    try dsimp only at hI2
    have hb2 := x2.bdy.trans (slices_insertionSortCmpFunc_int_c_impl_Order_1_b2.eq_1 ..)
    refine seqE ?_
    refine seqE ?_
    refine .inl ⟨by kernel_rfl, ?_⟩
    refine brD hb2 (fun hb2 h1 => ?_) (fun hb2 h1 => ?_)
    · refine andE (by (first | omega | (dsimp only <;> omega) | (simp (disch := omega) only [wrap_small, mid_eq, mid_eq1, mid_eq2, mid_eq3, List.length_map, List.length_set] <;> omega) | (simp (disch := omega) only [wrap_small, mid_eq, mid_eq1, mid_eq2, mid_eq3, List.length_map, List.length_set] at * <;> omega))) ?_
      refine rowGet (i := (x2.s.2).toNat) (l := x2.s.1) (by first | rfl | exact Nat.zero_add _ | simp) (fun hq2 => ?_)
      refine andE (by (first | omega | (dsimp only <;> omega) | (simp (disch := omega) only [wrap_small, mid_eq, mid_eq1, mid_eq2, mid_eq3, List.length_map, List.length_set] <;> omega) | (simp (disch := omega) only [wrap_small, mid_eq, mid_eq1, mid_eq2, mid_eq3, List.length_map, List.length_set] at * <;> omega))) ?_
      refine rowGet (i := ((IntKind.i64.wrap (x2.s.2 - 1))).toNat) (l := x2.s.1) (by first | rfl | exact Nat.zero_add _ | simp) (fun hq3 => ?_)
      refine ⟨_, _, c_impl_Order_1 (x2.s.1[(x2.s.2).toNat]?.getD default) (x2.s.1[((IntKind.i64.wrap (x2.s.2 - 1))).toNat]?.getD default) p3_0 (by exact Srt.get hI2.1.1 (by (first | omega | (dsimp only <;> omega) | (simp (disch := omega) only [wrap_small, mid_eq, mid_eq1, mid_eq2, mid_eq3, List.length_map, List.length_set] <;> omega) | (simp (disch := omega) only [wrap_small, mid_eq, mid_eq1, mid_eq2, mid_eq3, List.length_map, List.length_set] at * <;> omega)))) (by exact Srt.get hI2.1.1 (by (first | omega | (dsimp only <;> omega) | (simp (disch := omega) only [wrap_small, mid_eq, mid_eq1, mid_eq2, mid_eq3, List.length_map, List.length_set] <;> omega) | (simp (disch := omega) only [wrap_small, mid_eq, mid_eq1, mid_eq2, mid_eq3, List.length_map, List.length_set] at * <;> omega)))), (FzAs.same _), ?_⟩
      refine brD hb2 (fun hb2 h4 => ?_) (fun hb2 h4 => ?_)
      · refine seqE ?_
        refine .inr (.inr (.inr ⟨(.q 0 (.q 1 (.q 2 (.q 3 (.q 4 (.q 5 (.q 6 (.q 7 (.q 8 (.q 10 (.q 11 (.q 12 (.b 9 (.o 13 (.o 14 (.o 15 (.o 16 (.o 17 .leaf))))) 13 (.o 9 (.o 14 (.o 15 (.o 16 (.o 17 .leaf)))))))))))))))))), by kernel_rfl, ?_⟩))
        refine andE (by (first | omega | (dsimp only <;> omega) | (simp (disch := omega) only [wrap_small, mid_eq, mid_eq1, mid_eq2, mid_eq3, List.length_map, List.length_set] <;> omega) | (simp (disch := omega) only [wrap_small, mid_eq, mid_eq1, mid_eq2, mid_eq3, List.length_map, List.length_set] at * <;> omega))) ?_
        refine andE (by (first | omega | (dsimp only <;> omega) | (simp (disch := omega) only [wrap_small, mid_eq, mid_eq1, mid_eq2, mid_eq3, List.length_map, List.length_set] <;> omega) | (simp (disch := omega) only [wrap_small, mid_eq, mid_eq1, mid_eq2, mid_eq3, List.length_map, List.length_set] at * <;> omega))) ?_
        refine And.intro ?_ ?_
        · refine rowGet (i := ((IntKind.i64.wrap (x2.s.2 - 1))).toNat) (l := x2.s.1) (by first | rfl | exact Nat.zero_add _ | simp) (fun hq5 => ?_)
          refine rowGet (i := (x2.s.2).toNat) (l := x2.s.1) (by first | rfl | exact Nat.zero_add _ | simp) (fun hq6 => ?_)
          refine andE (by (first | omega | (dsimp only <;> omega) | (simp (disch := omega) only [wrap_small, mid_eq, mid_eq1, mid_eq2, mid_eq3, List.length_map, List.length_set] <;> omega) | (simp (disch := omega) only [wrap_small, mid_eq, mid_eq1, mid_eq2, mid_eq3, List.length_map, List.length_set] at * <;> omega))) ?_
          refine rowsE (Y := List.map cInt (List.set x2.s.1 (x2.s.2).toNat (x2.s.1[((IntKind.i64.wrap (x2.s.2 - 1))).toNat]?.getD default))) (by exact setMapE (by simp) (fun a ha => by first | rfl | (simp only [ha, Option.getD_some]; rfl) | (obtain ⟨_, rfl⟩ := List.getElem?_eq_some_iff.1 ha; rfl) | (simp only [Pol.cells_eq]; rfl) | (simp only [ha, Option.getD_some, Pol.cells_eq]; rfl))) ?_
          refine andE (by (first | omega | (dsimp only <;> omega) | (simp (disch := omega) only [wrap_small, mid_eq, mid_eq1, mid_eq2, mid_eq3, List.length_map, List.length_set] <;> omega) | (simp (disch := omega) only [wrap_small, mid_eq, mid_eq1, mid_eq2, mid_eq3, List.length_map, List.length_set] at * <;> omega))) ?_
          refine rowsE (Y := List.map cInt (List.set (List.set x2.s.1 (x2.s.2).toNat (x2.s.1[((IntKind.i64.wrap (x2.s.2 - 1))).toNat]?.getD default)) ((IntKind.i64.wrap (x2.s.2 - 1))).toNat (x2.s.1[(x2.s.2).toNat]?.getD default))) (by exact setMapE (by simp) (fun a ha => by first | rfl | (simp only [ha, Option.getD_some]; rfl) | (obtain ⟨_, rfl⟩ := List.getElem?_eq_some_iff.1 ha; rfl) | (simp only [Pol.cells_eq]; rfl) | (simp only [ha, Option.getD_some, Pol.cells_eq]; rfl))) ?_
          exact x2.goE hb2 (show (fun s : (List Int) × Int => (Srt (fun v : Int => 0 ≤ v ∧ v < ((p3_0.length : Nat) : Int)) s.1 ∧ s.1.length = p0.length) ∧ p1 ≤ s.2 ∧ s.2 < p2) ((List.set (List.set x2.s.1 (x2.s.2).toNat (x2.s.1[((IntKind.i64.wrap (x2.s.2 - 1))).toNat]?.getD default)) ((IntKind.i64.wrap (x2.s.2 - 1))).toNat (x2.s.1[(x2.s.2).toNat]?.getD default)), (IntKind.i64.wrap (x2.s.2 - 1))) ∧ (fun s : (List Int) × Int => (s.2 - p1).toNat) ((List.set (List.set x2.s.1 (x2.s.2).toNat (x2.s.1[((IntKind.i64.wrap (x2.s.2 - 1))).toNat]?.getD default)) ((IntKind.i64.wrap (x2.s.2 - 1))).toNat (x2.s.1[(x2.s.2).toNat]?.getD default)), (IntKind.i64.wrap (x2.s.2 - 1))) < (fun s : (List Int) × Int => (s.2 - p1).toNat) x2.s by exact ⟨⟨Sz.swp (N := p0.length) hI2.1 (by (first | omega | (dsimp only <;> omega) | (simp (disch := omega) only [wrap_small, mid_eq, mid_eq1, mid_eq2, mid_eq3, List.length_map, List.length_set] <;> omega) | (simp (disch := omega) only [wrap_small, mid_eq, mid_eq1, mid_eq2, mid_eq3, List.length_map, List.length_set] at * <;> omega))) (by (first | omega | (dsimp only <;> omega) | (simp (disch := omega) only [wrap_small, mid_eq, mid_eq1, mid_eq2, mid_eq3, List.length_map, List.length_set] <;> omega) | (simp (disch := omega) only [wrap_small, mid_eq, mid_eq1, mid_eq2, mid_eq3, List.length_map, List.length_set] at * <;> omega))), by (first | omega | (dsimp only <;> omega) | (simp (disch := omega) only [wrap_small, mid_eq, mid_eq1, mid_eq2, mid_eq3, List.length_map, List.length_set] <;> omega) | (simp (disch := omega) only [wrap_small, mid_eq, mid_eq1, mid_eq2, mid_eq3, List.length_map, List.length_set] at * <;> omega)), by (first | omega | (dsimp only <;> omega) | (simp (disch := omega) only [wrap_small, mid_eq, mid_eq1, mid_eq2, mid_eq3, List.length_map, List.length_set] <;> omega) | (simp (disch := omega) only [wrap_small, mid_eq, mid_eq1, mid_eq2, mid_eq3, List.length_map, List.length_set] at * <;> omega))⟩, by (first | omega | (dsimp only <;> omega) | (simp (disch := omega) only [wrap_small, mid_eq, mid_eq1, mid_eq2, mid_eq3, List.length_map, List.length_set] <;> omega) | (simp (disch := omega) only [wrap_small, mid_eq, mid_eq1, mid_eq2, mid_eq3, List.length_map, List.length_set] at * <;> omega))⟩) [none, some 1] ⟨rfl, ⟨⟨rfl, rfl, rfl, rfl, by (first | rfl | omega | (dsimp only; omega) | (simp; done) | (simp; omega) | (simp [LstSt.init, LstSt.step, LstInv.init, CntSt.init, CntSt.step, CntInv.init, WhlSt.init, WhlSt.step]; done) | (simp [LstSt.init, LstSt.step, LstInv.init, CntSt.init, CntSt.step, CntInv.init, WhlSt.init, WhlSt.step]; omega))⟩, rfl, rfl, rfl, ⟨rfl, ⟨rfl, trivial⟩⟩, rfl, trivial⟩, ⟨⟨rfl, rfl, rfl⟩, trivial⟩, ⟨⟨rfl, rfl, rfl, rfl, by (first | rfl | omega | (dsimp only; omega) | (simp; done) | (simp; omega) | (simp [LstSt.init, LstSt.step, LstInv.init, CntSt.init, CntSt.step, CntInv.init, WhlSt.init, WhlSt.step]; done) | (simp [LstSt.init, LstSt.step, LstInv.init, CntSt.init, CntSt.step, CntInv.init, WhlSt.init, WhlSt.step]; omega))⟩, trivial⟩⟩
        refine rowGet (i := (x2.s.2).toNat) (l := x2.s.1) (by first | rfl | exact Nat.zero_add _ | simp) (fun hq7 => ?_)
        refine rowGet (i := ((IntKind.i64.wrap (x2.s.2 - 1))).toNat) (l := x2.s.1) (by first | rfl | exact Nat.zero_add _ | simp) (fun hq8 => ?_)
        refine andE (by (first | omega | (dsimp only <;> omega) | (simp (disch := omega) only [wrap_small, mid_eq, mid_eq1, mid_eq2, mid_eq3, List.length_map, List.length_set] <;> omega) | (simp (disch := omega) only [wrap_small, mid_eq, mid_eq1, mid_eq2, mid_eq3, List.length_map, List.length_set] at * <;> omega))) ?_
        refine rowsE (Y := List.map cInt (List.set x2.s.1 (x2.s.2).toNat (x2.s.1[((IntKind.i64.wrap (x2.s.2 - 1))).toNat]?.getD default))) (by exact setMapE (by simp) (fun a ha => by first | rfl | (simp only [ha, Option.getD_some]; rfl) | (obtain ⟨_, rfl⟩ := List.getElem?_eq_some_iff.1 ha; rfl) | (simp only [Pol.cells_eq]; rfl) | (simp only [ha, Option.getD_some, Pol.cells_eq]; rfl))) ?_
        refine andE (by (first | omega | (dsimp only <;> omega) | (simp (disch := omega) only [wrap_small, mid_eq, mid_eq1, mid_eq2, mid_eq3, List.length_map, List.length_set] <;> omega) | (simp (disch := omega) only [wrap_small, mid_eq, mid_eq1, mid_eq2, mid_eq3, List.length_map, List.length_set] at * <;> omega))) ?_
        refine rowsE (Y := List.map cInt (List.set (List.set x2.s.1 (x2.s.2).toNat (x2.s.1[((IntKind.i64.wrap (x2.s.2 - 1))).toNat]?.getD default)) ((IntKind.i64.wrap (x2.s.2 - 1))).toNat (x2.s.1[(x2.s.2).toNat]?.getD default))) (by exact setMapE (by simp) (fun a ha => by first | rfl | (simp only [ha, Option.getD_some]; rfl) | (obtain ⟨_, rfl⟩ := List.getElem?_eq_some_iff.1 ha; rfl) | (simp only [Pol.cells_eq]; rfl) | (simp only [ha, Option.getD_some, Pol.cells_eq]; rfl))) ?_
        exact x2.goE hb2 (show (fun s : (List Int) × Int => (Srt (fun v : Int => 0 ≤ v ∧ v < ((p3_0.length : Nat) : Int)) s.1 ∧ s.1.length = p0.length) ∧ p1 ≤ s.2 ∧ s.2 < p2) ((List.set (List.set x2.s.1 (x2.s.2).toNat (x2.s.1[((IntKind.i64.wrap (x2.s.2 - 1))).toNat]?.getD default)) ((IntKind.i64.wrap (x2.s.2 - 1))).toNat (x2.s.1[(x2.s.2).toNat]?.getD default)), (IntKind.i64.wrap (x2.s.2 - 1))) ∧ (fun s : (List Int) × Int => (s.2 - p1).toNat) ((List.set (List.set x2.s.1 (x2.s.2).toNat (x2.s.1[((IntKind.i64.wrap (x2.s.2 - 1))).toNat]?.getD default)) ((IntKind.i64.wrap (x2.s.2 - 1))).toNat (x2.s.1[(x2.s.2).toNat]?.getD default)), (IntKind.i64.wrap (x2.s.2 - 1))) < (fun s : (List Int) × Int => (s.2 - p1).toNat) x2.s by exact ⟨⟨Sz.swp (N := p0.length) hI2.1 (by (first | omega | (dsimp only <;> omega) | (simp (disch := omega) only [wrap_small, mid_eq, mid_eq1, mid_eq2, mid_eq3, List.length_map, List.length_set] <;> omega) | (simp (disch := omega) only [wrap_small, mid_eq, mid_eq1, mid_eq2, mid_eq3, List.length_map, List.length_set] at * <;> omega))) (by (first | omega | (dsimp only <;> omega) | (simp (disch := omega) only [wrap_small, mid_eq, mid_eq1, mid_eq2, mid_eq3, List.length_map, List.length_set] <;> omega) | (simp (disch := omega) only [wrap_small, mid_eq, mid_eq1, mid_eq2, mid_eq3, List.length_map, List.length_set] at * <;> omega))), by (first | omega | (dsimp only <;> omega) | (simp (disch := omega) only [wrap_small, mid_eq, mid_eq1, mid_eq2, mid_eq3, List.length_map, List.length_set] <;> omega) | (simp (disch := omega) only [wrap_small, mid_eq, mid_eq1, mid_eq2, mid_eq3, List.length_map, List.length_set] at * <;> omega)), by (first | omega | (dsimp only <;> omega) | (simp (disch := omega) only [wrap_small, mid_eq, mid_eq1, mid_eq2, mid_eq3, List.length_map, List.length_set] <;> omega) | (simp (disch := omega) only [wrap_small, mid_eq, mid_eq1, mid_eq2, mid_eq3, List.length_map, List.length_set] at * <;> omega))⟩, by (first | omega | (dsimp only <;> omega) | (simp (disch := omega) only [wrap_small, mid_eq, mid_eq1, mid_eq2, mid_eq3, List.length_map, List.length_set] <;> omega) | (simp (disch := omega) only [wrap_small, mid_eq, mid_eq1, mid_eq2, mid_eq3, List.length_map, List.length_set] at * <;> omega))⟩) [none, some 1] ⟨rfl, ⟨⟨rfl, rfl, rfl, rfl, by (first | rfl | omega | (dsimp only; omega) | (simp; done) | (simp; omega) | (simp [LstSt.init, LstSt.step, LstInv.init, CntSt.init, CntSt.step, CntInv.init, WhlSt.init, WhlSt.step]; done) | (simp [LstSt.init, LstSt.step, LstInv.init, CntSt.init, CntSt.step, CntInv.init, WhlSt.init, WhlSt.step]; omega))⟩, rfl, rfl, rfl, ⟨rfl, ⟨rfl, trivial⟩⟩, rfl, trivial⟩, ⟨⟨rfl, rfl, rfl⟩, trivial⟩, ⟨⟨rfl, rfl, rfl, rfl, by (first | rfl | omega | (dsimp only; omega) | (simp; done) | (simp; omega) | (simp [LstSt.init, LstSt.step, LstInv.init, CntSt.init, CntSt.step, CntInv.init, WhlSt.init, WhlSt.step]; done) | (simp [LstSt.init, LstSt.step, LstInv.init, CntSt.init, CntSt.step, CntInv.init, WhlSt.init, WhlSt.step]; omega))⟩, trivial⟩⟩
      · have hb1 := finE hb1 (x2.outS hb2)
        exact x1.goE hi1 hb1 (hI2.1) [none, some 1] ⟨rfl, ⟨⟨rfl, rfl, rfl, rfl, by (first | rfl | omega | (dsimp only; omega) | (simp; done) | (simp; omega) | (simp [LstSt.init, LstSt.step, LstInv.init, CntSt.init, CntSt.step, CntInv.init, WhlSt.init, WhlSt.step]; done) | (simp [LstSt.init, LstSt.step, LstInv.init, CntSt.init, CntSt.step, CntInv.init, WhlSt.init, WhlSt.step]; omega))⟩, (eqInt hw1), rfl, rfl, ⟨rfl, ⟨rfl, trivial⟩⟩, trivial⟩, ⟨⟨rfl, rfl, rfl⟩, trivial⟩, ⟨⟨rfl, rfl, rfl, rfl, by (first | rfl | omega | (dsimp only; omega) | (simp; done) | (simp; omega) | (simp [LstSt.init, LstSt.step, LstInv.init, CntSt.init, CntSt.step, CntInv.init, WhlSt.init, WhlSt.step]; done) | (simp [LstSt.init, LstSt.step, LstInv.init, CntSt.init, CntSt.step, CntInv.init, WhlSt.init, WhlSt.step]; omega))⟩, trivial⟩⟩
    · have hb1 := finE hb1 (x2.outS hb2)
      exact x1.goE hi1 hb1 (hI2.1) [none, some 1] ⟨rfl, ⟨⟨rfl, rfl, rfl, rfl, by (first | rfl | omega | (dsimp only; omega) | (simp; done) | (simp; omega) | (simp [LstSt.init, LstSt.step, LstInv.init, CntSt.init, CntSt.step, CntInv.init, WhlSt.init, WhlSt.step]; done) | (simp [LstSt.init, LstSt.step, LstInv.init, CntSt.init, CntSt.step, CntInv.init, WhlSt.init, WhlSt.step]; omega))⟩, (eqInt hw1), rfl, rfl, ⟨rfl, ⟨rfl, trivial⟩⟩, trivial⟩, ⟨⟨rfl, rfl, rfl⟩, trivial⟩, ⟨⟨rfl, rfl, rfl, rfl, by (first | rfl | omega | (dsimp only; omega) | (simp; done) | (simp; omega) | (simp [LstSt.init, LstSt.step, LstInv.init, CntSt.init, CntSt.step, CntInv.init, WhlSt.init, WhlSt.step]; done) | (simp [LstSt.init, LstSt.step, LstInv.init, CntSt.init, CntSt.step, CntInv.init, WhlSt.init, WhlSt.step]; omega))⟩, trivial⟩⟩
  have hg := finE hg (x1.fin hi1)
  exact leafM hown hg
def slices_swapRangeCmpFunc_int_c_impl_Order_1_b1 (p1 : Int) (p2 : Int) (i1 : Nat) (s1 : (List Int)) : Step ((List Int)) (List Int) :=
  (.next (List.set (List.set s1 ((IntKind.i64.wrap (p1 + ((i1 : Nat) : Int)))).toNat (s1[((IntKind.i64.wrap (p2 + ((i1 : Nat) : Int)))).toNat]?.getD default)) ((IntKind.i64.wrap (p2 + ((i1 : Nat) : Int)))).toNat (s1[((IntKind.i64.wrap (p1 + ((i1 : Nat) : Int)))).toNat]?.getD default)))
def slices_swapRangeCmpFunc_int_c_impl_Order_1 (p0 : (List Int)) (p1 : Int) (p2 : Int) (p3 : Int) (p4_0 : (List Deed)) : (List Int) :=
  (Fin.get (fun s1 => s1) (loopC (slices_swapRangeCmpFunc_int_c_impl_Order_1_b1 p1 p2) 0 p0 (p3).toNat))
theorem e_slices_swapRangeCmpFunc_int_c_impl_Order_1 (p0 : List Int) (p1 p2 p3 : Int) (c : List Deed) : slices_swapRangeCmpFunc_int_c_impl_Order_1 p0 p1 p2 p3 c = g_swapRange p0 p1 p2 p3 (fun x y => impl_Order_1 x y c) := rfl
theorem len_slices_swapRangeCmpFunc_int_c_impl_Order_1 (p0 : List Int) (p1 p2 p3 : Int) (c : List Deed) : (slices_swapRangeCmpFunc_int_c_impl_Order_1 p0 p1 p2 p3 c).length = p0.length := by rw [e_slices_swapRangeCmpFunc_int_c_impl_Order_1]; exact len_g_swapRange ..
theorem c_slices_swapRangeCmpFunc_int_c_impl_Order_1 (p0 : (List Int)) (p1 : Int) (p2 : Int) (p3 : Int) (p4_0 : (List Deed)) (hs : (Srt (fun v : Int => 0 ≤ v ∧ v < ((p4_0.length : Nat) : Int)) p0 ∧ p0.length ≤ 288230376151711744) ∧ (0 ≤ p1 ∧ 0 ≤ p2 ∧ 0 ≤ p3) ∧ p1 + p3 ≤ ((p0.length : Nat) : Int) ∧ p2 + p3 ≤ ((p0.length : Nat) : Int)) : FnOk prog 243 [.tup [.one (.s true 1 (List.map cInt p0))], .one (.v (.int .i64 p1)), .one (.v (.int .i64 p2)), .one (.v (.int .i64 p3)), .one (.c 203 [.q 1 [[.s false 20 (List.map (Deed.cells false) p4_0)]] 0 0])] ⟨.tup [], [.one (.s true 1 (List.map cInt ((slices_swapRangeCmpFunc_int_c_impl_Order_1 p0 p1 p2 p3 p4_0))))], [], false⟩ := by
  refine FnOk.introM (E := env) envOk wide func243 rfl (by kernel_rfl) rfl ?_
  have hg := slices_swapRangeCmpFunc_int_c_impl_Order_1.eq_1 p0 p1 p2 p3 p4_0
  have hown : (∀ g : (List Int), AV.Own (AV.tup [])) ∧ (fun g : (List Int) => T.s true 1 (List.map cInt (g))) = _ := ⟨fun g => trivial, rfl⟩
  refine seqE ?_
  refine loopCI (fun _ s => (Srt (fun v : Int => 0 ≤ v ∧ v < ((p4_0.length : Nat) : Int)) s ∧ s.length = p0.length)) hg (⟨hs.1.1, rfl⟩) [0, 1, 2, 3] (fun x1 => [(10, .one (.v (.int .i64 ((x1.i : Nat) : Int))))]) (fun x1 => [.dead, .new ⟨1, false, List.map cInt x1.s, 0⟩]) [none, some 1] ?_ (fun x1 => ?_)
  · exact ⟨rfl, ⟨rfl, ⟨rfl, rfl, rfl, rfl, by (first | rfl | omega | (dsimp only; omega) | (simp; done) | (simp; omega) | (simp [LstSt.init, LstSt.step, LstInv.init, CntSt.init, CntSt.step, CntInv.init, WhlSt.init, WhlSt.step]; done) | (simp [LstSt.init, LstSt.step, LstInv.init, CntSt.init, CntSt.step, CntInv.init, WhlSt.init, WhlSt.step]; omega))⟩, rfl, rfl, rfl, trivial⟩, ⟨⟨rfl, rfl, rfl⟩, trivial⟩, ⟨⟨rfl, rfl, rfl, rfl, by (first | rfl | omega | (dsimp only; omega) | (simp; done) | (simp; omega) | (simp [LstSt.init, LstSt.step, LstInv.init, CntSt.init, CntSt.step, CntInv.init, WhlSt.init, WhlSt.step]; done) | (simp [LstSt.init, LstSt.step, LstInv.init, CntSt.init, CntSt.step, CntInv.init, WhlSt.init, WhlSt.step]; omega))⟩, trivial⟩⟩
  have hI1 := x1.hI
  try dsimp only at hI1
  refine seqE ?_
  refine seqE ?_
  refine tstC (fun hi1 => ?_) (fun hi1 => ?_)
  · have hb1 := (x1.bdy hi1).trans (slices_swapRangeCmpFunc_int_c_impl_Order_1_b1.eq_1 ..)
    have hw1 := wrapC hi1
    refine seqE ?_
    refine .inr (.inr (.inr ⟨(.q 0 (.q 1 (.q 2 (.q 3 (.q 4 (.q 5 (.q 6 (.q 7 (.q 8 (.q 9 (.q 10 (.q 11 (.q 12 (.q 14 (.q 15 (.q 16 (.q 17 (.q 18 (.b 13 (.o 19 (.o 20 (.o 21 (.o 22 (.o 23 .leaf))))) 19 (.o 13 (.o 20 (.o 21 (.o 22 (.o 23 .leaf)))))))))))))))))))))))), by kernel_rfl, ?_⟩))
    refine andE (by (first | omega | (dsimp only <;> omega) | (simp (disch := omega) only [wrap_small, mid_eq, mid_eq1, mid_eq2, mid_eq3, List.length_map, List.length_set] <;> omega) | (simp (disch := omega) only [wrap_small, mid_eq, mid_eq1, mid_eq2, mid_eq3, List.length_map, List.length_set] at * <;> omega))) ?_
    refine andE (by (first | omega | (dsimp only <;> omega) | (simp (disch := omega) only [wrap_small, mid_eq, mid_eq1, mid_eq2, mid_eq3, List.length_map, List.length_set] <;> omega) | (simp (disch := omega) only [wrap_small, mid_eq, mid_eq1, mid_eq2, mid_eq3, List.length_map, List.length_set] at * <;> omega))) ?_
    refine And.intro ?_ ?_
    · refine rowGet (i := ((IntKind.i64.wrap (p2 + ((x1.i : Nat) : Int)))).toNat) (l := x1.s) (by first | rfl | exact Nat.zero_add _ | simp) (fun hq1 => ?_)
      refine rowGet (i := ((IntKind.i64.wrap (p1 + ((x1.i : Nat) : Int)))).toNat) (l := x1.s) (by first | rfl | exact Nat.zero_add _ | simp) (fun hq2 => ?_)
      refine andE (by (first | omega | (dsimp only <;> omega) | (simp (disch := omega) only [wrap_small, mid_eq, mid_eq1, mid_eq2, mid_eq3, List.length_map, List.length_set] <;> omega) | (simp (disch := omega) only [wrap_small, mid_eq, mid_eq1, mid_eq2, mid_eq3, List.length_map, List.length_set] at * <;> omega))) ?_
      refine rowsE (Y := List.map cInt (List.set x1.s ((IntKind.i64.wrap (p1 + ((x1.i : Nat) : Int)))).toNat (x1.s[((IntKind.i64.wrap (p2 + ((x1.i : Nat) : Int)))).toNat]?.getD default))) (by exact setMapE (by simp) (fun a ha => by first | rfl | (simp only [ha, Option.getD_some]; rfl) | (obtain ⟨_, rfl⟩ := List.getElem?_eq_some_iff.1 ha; rfl) | (simp only [Pol.cells_eq]; rfl) | (simp only [ha, Option.getD_some, Pol.cells_eq]; rfl))) ?_
      refine andE (by (first | omega | (dsimp only <;> omega) | (simp (disch := omega) only [wrap_small, mid_eq, mid_eq1, mid_eq2, mid_eq3, List.length_map, List.length_set] <;> omega) | (simp (disch := omega) only [wrap_small, mid_eq, mid_eq1, mid_eq2, mid_eq3, List.length_map, List.length_set] at * <;> omega))) ?_
      refine rowsE (Y := List.map cInt (List.set (List.set x1.s ((IntKind.i64.wrap (p1 + ((x1.i : Nat) : Int)))).toNat (x1.s[((IntKind.i64.wrap (p2 + ((x1.i : Nat) : Int)))).toNat]?.getD default)) ((IntKind.i64.wrap (p2 + ((x1.i : Nat) : Int)))).toNat (x1.s[((IntKind.i64.wrap (p1 + ((x1.i : Nat) : Int)))).toNat]?.getD default))) (by exact setMapE (by simp) (fun a ha => by first | rfl | (simp only [ha, Option.getD_some]; rfl) | (obtain ⟨_, rfl⟩ := List.getElem?_eq_some_iff.1 ha; rfl) | (simp only [Pol.cells_eq]; rfl) | (simp only [ha, Option.getD_some, Pol.cells_eq]; rfl))) ?_
      exact x1.goE hi1 hb1 (Sz.swp (N := p0.length) hI1 (by (first | omega | (dsimp only <;> omega) | (simp (disch := omega) only [wrap_small, mid_eq, mid_eq1, mid_eq2, mid_eq3, List.length_map, List.length_set] <;> omega) | (simp (disch := omega) only [wrap_small, mid_eq, mid_eq1, mid_eq2, mid_eq3, List.length_map, List.length_set] at * <;> omega))) (by (first | omega | (dsimp only <;> omega) | (simp (disch := omega) only [wrap_small, mid_eq, mid_eq1, mid_eq2, mid_eq3, List.length_map, List.length_set] <;> omega) | (simp (disch := omega) only [wrap_small, mid_eq, mid_eq1, mid_eq2, mid_eq3, List.length_map, List.length_set] at * <;> omega)))) [none, some 1] ⟨rfl, ⟨(eqInt hw1), ⟨rfl, rfl, rfl, rfl, by (first | rfl | omega | (dsimp only; omega) | (simp; done) | (simp; omega) | (simp [LstSt.init, LstSt.step, LstInv.init, CntSt.init, CntSt.step, CntInv.init, WhlSt.init, WhlSt.step]; done) | (simp [LstSt.init, LstSt.step, LstInv.init, CntSt.init, CntSt.step, CntInv.init, WhlSt.init, WhlSt.step]; omega))⟩, rfl, rfl, rfl, trivial⟩, ⟨⟨rfl, rfl, rfl⟩, trivial⟩, ⟨⟨rfl, rfl, rfl, rfl, by (first | rfl | omega | (dsimp only; omega) | (simp; done) | (simp; omega) | (simp [LstSt.init, LstSt.step, LstInv.init, CntSt.init, CntSt.step, CntInv.init, WhlSt.init, WhlSt.step]; done) | (simp [LstSt.init, LstSt.step, LstInv.init, CntSt.init, CntSt.step, CntInv.init, WhlSt.init, WhlSt.step]; omega))⟩, trivial⟩⟩
    refine rowGet (i := ((IntKind.i64.wrap (p1 + ((x1.i : Nat) : Int)))).toNat) (l := x1.s) (by first | rfl | exact Nat.zero_add _ | simp) (fun hq3 => ?_)
    refine rowGet (i := ((IntKind.i64.wrap (p2 + ((x1.i : Nat) : Int)))).toNat) (l := x1.s) (by first | rfl | exact Nat.zero_add _ | simp) (fun hq4 => ?_)
    refine andE (by (first | omega | (dsimp only <;> omega) | (simp (disch := omega) only [wrap_small, mid_eq, mid_eq1, mid_eq2, mid_eq3, List.length_map, List.length_set] <;> omega) | (simp (disch := omega) only [wrap_small, mid_eq, mid_eq1, mid_eq2, mid_eq3, List.length_map, List.length_set] at * <;> omega))) ?_
    refine rowsE (Y := List.map cInt (List.set x1.s ((IntKind.i64.wrap (p1 + ((x1.i : Nat) : Int)))).toNat (x1.s[((IntKind.i64.wrap (p2 + ((x1.i : Nat) : Int)))).toNat]?.getD default))) (by exact setMapE (by simp) (fun a ha => by first | rfl | (simp only [ha, Option.getD_some]; rfl) | (obtain ⟨_, rfl⟩ := List.getElem?_eq_some_iff.1 ha; rfl) | (simp only [Pol.cells_eq]; rfl) | (simp only [ha, Option.getD_some, Pol.cells_eq]; rfl))) ?_
    refine andE (by (first | omega | (dsimp only <;> omega) | (simp (disch := omega) only [wrap_small, mid_eq, mid_eq1, mid_eq2, mid_eq3, List.length_map, List.length_set] <;> omega) | (simp (disch := omega) only [wrap_small, mid_eq, mid_eq1, mid_eq2, mid_eq3, List.length_map, List.length_set] at * <;> omega))) ?_
    refine rowsE (Y := List.map cInt (List.set (List.set x1.s ((IntKind.i64.wrap (p1 + ((x1.i : Nat) : Int)))).toNat (x1.s[((IntKind.i64.wrap (p2 + ((x1.i : Nat) : Int)))).toNat]?.getD default)) ((IntKind.i64.wrap (p2 + ((x1.i : Nat) : Int)))).toNat (x1.s[((IntKind.i64.wrap (p1 + ((x1.i : Nat) : Int)))).toNat]?.getD default))) (by exact setMapE (by simp) (fun a ha => by first | rfl | (simp only [ha, Option.getD_some]; rfl) | (obtain ⟨_, rfl⟩ := List.getElem?_eq_some_iff.1 ha; rfl) | (simp only [Pol.cells_eq]; rfl) | (simp only [ha, Option.getD_some, Pol.cells_eq]; rfl))) ?_
    exact x1.goE hi1 hb1 (Sz.swp (N := p0.length) hI1 (by (first | omega | (dsimp only <;> omega) | (simp (disch := omega) only [wrap_small, mid_eq, mid_eq1, mid_eq2, mid_eq3, List.length_map, List.length_set] <;> omega) | (simp (disch := omega) only [wrap_small, mid_eq, mid_eq1, mid_eq2, mid_eq3, List.length_map, List.length_set] at * <;> omega))) (by (first | omega | (dsimp only <;> omega) | (simp (disch := omega) only [wrap_small, mid_eq, mid_eq1, mid_eq2, mid_eq3, List.length_map, List.length_set] <;> omega) | (simp (disch := omega) only [wrap_small, mid_eq, mid_eq1, mid_eq2, mid_eq3, List.length_map, List.length_set] at * <;> omega)))) [none, some 1] ⟨rfl, ⟨(eqInt hw1), ⟨rfl, rfl, rfl, rfl, by (first | rfl | omega | (dsimp only; omega) | (simp; done) | (simp; omega) | (simp [LstSt.init, LstSt.step, LstInv.init, CntSt.init, CntSt.step, CntInv.init, WhlSt.init, WhlSt.step]; done) | (simp [LstSt.init, LstSt.step, LstInv.init, CntSt.init, CntSt.step, CntInv.init, WhlSt.init, WhlSt.step]; omega))⟩, rfl, rfl, rfl, trivial⟩, ⟨⟨rfl, rfl, rfl⟩, trivial⟩, ⟨⟨rfl, rfl, rfl, rfl, by (first | rfl | omega | (dsimp only; omega) | (simp; done) | (simp; omega) | (simp [LstSt.init, LstSt.step, LstInv.init, CntSt.init, CntSt.step, CntInv.init, WhlSt.init, WhlSt.step]; done) | (simp [LstSt.init, LstSt.step, LstInv.init, CntSt.init, CntSt.step, CntInv.init, WhlSt.init, WhlSt.step]; omega))⟩, trivial⟩⟩
  have hg := finE hg (x1.fin hi1)
  exact leafM hown hg
def slices_rotateCmpFunc_int_c_impl_Order_1_b1 (p2 : Int) (p4_0 : (List Deed)) (s1 : (List Int) × Int × Int) : Step ((List Int) × Int × Int) (List Int) :=
  (bif (s1.2.1 != s1.2.2) then (bif (decide (s1.2.1 > s1.2.2)) then (.next ((slices_swapRangeCmpFunc_int_c_impl_Order_1 s1.1 (IntKind.i64.wrap (p2 - s1.2.1)) p2 s1.2.2 p4_0), (IntKind.i64.wrap (s1.2.1 - s1.2.2)), s1.2.2)) else (.next ((slices_swapRangeCmpFunc_int_c_impl_Order_1 s1.1 (IntKind.i64.wrap (p2 - s1.2.1)) (IntKind.i64.wrap ((IntKind.i64.wrap (p2 + s1.2.2)) - s1.2.1)) s1.2.1 p4_0), s1.2.1, (IntKind.i64.wrap (s1.2.2 - s1.2.1))))) else (.stop (s1.1, s1.2.1, s1.2.2)))
def slices_rotateCmpFunc_int_c_impl_Order_1 (p0 : (List Int)) (p1 : Int) (p2 : Int) (p3 : Int) (p4_0 : (List Deed)) : (List Int) :=
  (Fin.get (fun s1 => (slices_swapRangeCmpFunc_int_c_impl_Order_1 s1.1 (IntKind.i64.wrap (p2 - s1.2.1)) p2 s1.2.1 p4_0)) (loopW (slices_rotateCmpFunc_int_c_impl_Order_1_b1 p2 p4_0) ((fun s : (List Int) × Int × Int => (s.2.1 + s.2.2).toNat) (p0, (IntKind.i64.wrap (p2 - p1)), (IntKind.i64.wrap (p3 - p2)))) (p0, (IntKind.i64.wrap (p2 - p1)), (IntKind.i64.wrap (p3 - p2)))))
theorem e_slices_rotateCmpFunc_int_c_impl_Order_1 (p0 : List Int) (p1 p2 p3 : Int) (c : List Deed) : slices_rotateCmpFunc_int_c_impl_Order_1 p0 p1 p2 p3 c = g_rotate p0 p1 p2 p3 (fun x y => impl_Order_1 x y c) := rfl
theorem len_slices_rotateCmpFunc_int_c_impl_Order_1 (p0 : List Int) (p1 p2 p3 : Int) (c : List Deed) : (slices_rotateCmpFunc_int_c_impl_Order_1 p0 p1 p2 p3 c).length = p0.length := by rw [e_slices_rotateCmpFunc_int_c_impl_Order_1]; exact len_g_rotate ..
theorem c_slices_rotateCmpFunc_int_c_impl_Order_1 (p0 : (List Int)) (p1 : Int) (p2 : Int) (p3 : Int) (p4_0 : (List Deed)) (hs : (Srt (fun v : Int => 0 ≤ v ∧ v < ((p4_0.length : Nat) : Int)) p0 ∧ p0.length ≤ 288230376151711744) ∧ 0 ≤ p1 ∧ p1 < p2 ∧ p2 < p3 ∧ p3 ≤ ((p0.length : Nat) : Int)) : FnOk prog 242 [.tup [.one (.s true 1 (List.map cInt p0))], .one (.v (.int .i64 p1)), .one (.v (.int .i64 p2)), .one (.v (.int .i64 p3)), .one (.c 203 [.q 1 [[.s false 20 (List.map (Deed.cells false) p4_0)]] 0 0])] ⟨.tup [], [.one (.s true 1 (List.map cInt ((slices_rotateCmpFunc_int_c_impl_Order_1 p0 p1 p2 p3 p4_0))))], [], false⟩ := by
  refine FnOk.introM (E := env) envOk wide func242 rfl (by kernel_rfl) rfl ?_
  have hg := slices_rotateCmpFunc_int_c_impl_Order_1.eq_1 p0 p1 p2 p3 p4_0
  have hown : (∀ g : (List Int), AV.Own (AV.tup [])) ∧ (fun g : (List Int) => T.s true 1 (List.map cInt (g))) = _ := ⟨fun g => trivial, rfl⟩
  refine seqE ?_
  refine seqE ?_
  refine seqE ?_
  refine loopWE (m := (fun s : (List Int) × Int × Int => (s.2.1 + s.2.2).toNat)) (s0 := (p0, (IntKind.i64.wrap (p2 - p1)), (IntKind.i64.wrap (p3 - p2)))) (fun s : (List Int) × Int × Int => (Srt (fun v : Int => 0 ≤ v ∧ v < ((p4_0.length : Nat) : Int)) s.1 ∧ s.1.length = p0.length) ∧ 0 < s.2.1 ∧ 0 < s.2.2 ∧ p1 ≤ p2 - s.2.1 ∧ p2 + s.2.2 ≤ p3) hg (by exact ⟨⟨hs.1.1, rfl⟩, by (first | omega | (dsimp only <;> omega) | (simp (disch := omega) only [wrap_small, mid_eq, mid_eq1, mid_eq2, mid_eq3, List.length_map, List.length_set] <;> omega) | (simp (disch := omega) only [wrap_small, mid_eq, mid_eq1, mid_eq2, mid_eq3, List.length_map, List.length_set] at * <;> omega)), by (first | omega | (dsimp only <;> omega) | (simp (disch := omega) only [wrap_small, mid_eq, mid_eq1, mid_eq2, mid_eq3, List.length_map, List.length_set] <;> omega) | (simp (disch := omega) only [wrap_small, mid_eq, mid_eq1, mid_eq2, mid_eq3, List.length_map, List.length_set] at * <;> omega)), by (first | omega | (dsimp only <;> omega) | (simp (disch := omega) only [wrap_small, mid_eq, mid_eq1, mid_eq2, mid_eq3, List.length_map, List.length_set] <;> omega) | (simp (disch := omega) only [wrap_small, mid_eq, mid_eq1, mid_eq2, mid_eq3, List.length_map, List.length_set] at * <;> omega)), by (first | omega | (dsimp only <;> omega) | (simp (disch := omega) only [wrap_small, mid_eq, mid_eq1, mid_eq2, mid_eq3, List.length_map, List.length_set] <;> omega) | (simp (disch := omega) only [wrap_small, mid_eq, mid_eq1, mid_eq2, mid_eq3, List.length_map, List.length_set] at * <;> omega))⟩) [0, 2, 4] (fun x1 => [(10, .one (.v (.int .i64 x1.s.2.1))), (11, .one (.v (.int .i64 x1.s.2.2)))]) (fun x1 => [.dead, .new ⟨1, false, List.map cInt x1.s.1, 0⟩]) [none, some 1] ?_ (fun x1 => ?_)
  · exact ⟨rfl, ⟨rfl, rfl, ⟨rfl, rfl, rfl, rfl, by (first | rfl | omega | (dsimp only; omega) | (simp; done) | (simp; omega) | (simp [LstSt.init, LstSt.step, LstInv.init, CntSt.init, CntSt.step, CntInv.init, WhlSt.init, WhlSt.step]; done) | (simp [LstSt.init, LstSt.step, LstInv.init, CntSt.init, CntSt.step, CntInv.init, WhlSt.init, WhlSt.step]; omega))⟩, rfl, ⟨rfl, ⟨rfl, trivial⟩⟩, trivial⟩, ⟨⟨rfl, rfl, rfl⟩, trivial⟩, ⟨⟨rfl, rfl, rfl, rfl, by (first | rfl | omega | (dsimp only; omega) | (simp; done) | (simp; omega) | (simp [LstSt.init, LstSt.step, LstInv.init, CntSt.init, CntSt.step, CntInv.init, WhlSt.init, WhlSt.step]; done) | (simp [LstSt.init, LstSt.step, LstInv.init, CntSt.init, CntSt.step, CntInv.init, WhlSt.init, WhlSt.step]; omega))⟩, trivial⟩⟩
  have hI1 := x1.hI
  try dsimp only at hI1
  have hb1 := x1.bdy.trans (slices_rotateCmpFunc_int_c_impl_Order_1_b1.eq_1 ..)
  refine seqE ?_
  refine seqE ?_
  refine brW hb1 (fun hb1 h1 => ?_) (fun hb1 h1 => ?_)
  · refine seqE ?_
    refine brD hb1 (fun hb1 h2 => ?_) (fun hb1 h2 => ?_)
    · refine seqE ?_
      refine .inr ⟨0, _, _, _, c_slices_swapRangeCmpFunc_int_c_impl_Order_1 x1.s.1 (IntKind.i64.wrap (p2 - x1.s.2.1)) p2 x1.s.2.2 p4_0 (by exact ⟨⟨hI1.1.1, by (first | omega | (dsimp only <;> omega) | (simp (disch := omega) only [wrap_small, mid_eq, mid_eq1, mid_eq2, mid_eq3, List.length_map, List.length_set] <;> omega) | (simp (disch := omega) only [wrap_small, mid_eq, mid_eq1, mid_eq2, mid_eq3, List.length_map, List.length_set] at * <;> omega))⟩, ⟨by (first | omega | (dsimp only <;> omega) | (simp (disch := omega) only [wrap_small, mid_eq, mid_eq1, mid_eq2, mid_eq3, List.length_map, List.length_set] <;> omega) | (simp (disch := omega) only [wrap_small, mid_eq, mid_eq1, mid_eq2, mid_eq3, List.length_map, List.length_set] at * <;> omega)), by (first | omega | (dsimp only <;> omega) | (simp (disch := omega) only [wrap_small, mid_eq, mid_eq1, mid_eq2, mid_eq3, List.length_map, List.length_set] <;> omega) | (simp (disch := omega) only [wrap_small, mid_eq, mid_eq1, mid_eq2, mid_eq3, List.length_map, List.length_set] at * <;> omega)), by (first | omega | (dsimp only <;> omega) | (simp (disch := omega) only [wrap_small, mid_eq, mid_eq1, mid_eq2, mid_eq3, List.length_map, List.length_set] <;> omega) | (simp (disch := omega) only [wrap_small, mid_eq, mid_eq1, mid_eq2, mid_eq3, List.length_map, List.length_set] at * <;> omega))⟩, by (first | omega | (dsimp only <;> omega) | (simp (disch := omega) only [wrap_small, mid_eq, mid_eq1, mid_eq2, mid_eq3, List.length_map, List.length_set] <;> omega) | (simp (disch := omega) only [wrap_small, mid_eq, mid_eq1, mid_eq2, mid_eq3, List.length_map, List.length_set] at * <;> omega)), by (first | omega | (dsimp only <;> omega) | (simp (disch := omega) only [wrap_small, mid_eq, mid_eq1, mid_eq2, mid_eq3, List.length_map, List.length_set] <;> omega) | (simp (disch := omega) only [wrap_small, mid_eq, mid_eq1, mid_eq2, mid_eq3, List.length_map, List.length_set] at * <;> omega))⟩), (FzAs.same _), .inr ⟨ownSl own_cInt _, ?_⟩⟩
      refine litE (m := 3) rfl ?_
      have hz3 := len_slices_swapRangeCmpFunc_int_c_impl_Order_1 x1.s.1 (IntKind.i64.wrap (p2 - x1.s.2.1)) p2 x1.s.2.2 p4_0
      exact x1.goE hb1 (show (fun s : (List Int) × Int × Int => (Srt (fun v : Int => 0 ≤ v ∧ v < ((p4_0.length : Nat) : Int)) s.1 ∧ s.1.length = p0.length) ∧ 0 < s.2.1 ∧ 0 < s.2.2 ∧ p1 ≤ p2 - s.2.1 ∧ p2 + s.2.2 ≤ p3) ((slices_swapRangeCmpFunc_int_c_impl_Order_1 x1.s.1 (IntKind.i64.wrap (p2 - x1.s.2.1)) p2 x1.s.2.2 p4_0), (IntKind.i64.wrap (x1.s.2.1 - x1.s.2.2)), x1.s.2.2) ∧ (fun s : (List Int) × Int × Int => (s.2.1 + s.2.2).toNat) ((slices_swapRangeCmpFunc_int_c_impl_Order_1 x1.s.1 (IntKind.i64.wrap (p2 - x1.s.2.1)) p2 x1.s.2.2 p4_0), (IntKind.i64.wrap (x1.s.2.1 - x1.s.2.2)), x1.s.2.2) < (fun s : (List Int) × Int × Int => (s.2.1 + s.2.2).toNat) x1.s by refine ⟨⟨?_, by (first | omega | (dsimp only <;> omega) | (simp (disch := omega) only [wrap_small, mid_eq, mid_eq1, mid_eq2, mid_eq3, List.length_map, List.length_set] <;> omega) | (simp (disch := omega) only [wrap_small, mid_eq, mid_eq1, mid_eq2, mid_eq3, List.length_map, List.length_set] at * <;> omega)), by (first | omega | (dsimp only <;> omega) | (simp (disch := omega) only [wrap_small, mid_eq, mid_eq1, mid_eq2, mid_eq3, List.length_map, List.length_set] <;> omega) | (simp (disch := omega) only [wrap_small, mid_eq, mid_eq1, mid_eq2, mid_eq3, List.length_map, List.length_set] at * <;> omega)), by (first | omega | (dsimp only <;> omega) | (simp (disch := omega) only [wrap_small, mid_eq, mid_eq1, mid_eq2, mid_eq3, List.length_map, List.length_set] <;> omega) | (simp (disch := omega) only [wrap_small, mid_eq, mid_eq1, mid_eq2, mid_eq3, List.length_map, List.length_set] at * <;> omega)), by (first | omega | (dsimp only <;> omega) | (simp (disch := omega) only [wrap_small, mid_eq, mid_eq1, mid_eq2, mid_eq3, List.length_map, List.length_set] <;> omega) | (simp (disch := omega) only [wrap_small, mid_eq, mid_eq1, mid_eq2, mid_eq3, List.length_map, List.length_set] at * <;> omega))⟩, by (first | omega | (dsimp only <;> omega) | (simp (disch := omega) only [wrap_small, mid_eq, mid_eq1, mid_eq2, mid_eq3, List.length_map, List.length_set] <;> omega) | (simp (disch := omega) only [wrap_small, mid_eq, mid_eq1, mid_eq2, mid_eq3, List.length_map, List.length_set] at * <;> omega))⟩; (show Sz _ p0.length _); dsimp only; rw [e_slices_swapRangeCmpFunc_int_c_impl_Order_1]; exact sz_swap (N := p0.length) hI1.1 (by (first | omega | (dsimp only <;> omega) | (simp (disch := omega) only [wrap_small, mid_eq, mid_eq1, mid_eq2, mid_eq3, List.length_map, List.length_set] <;> omega) | (simp (disch := omega) only [wrap_small, mid_eq, mid_eq1, mid_eq2, mid_eq3, List.length_map, List.length_set] at * <;> omega))) (by (first | omega | (dsimp only <;> omega) | (simp (disch := omega) only [wrap_small, mid_eq, mid_eq1, mid_eq2, mid_eq3, List.length_map, List.length_set] <;> omega) | (simp (disch := omega) only [wrap_small, mid_eq, mid_eq1, mid_eq2, mid_eq3, List.length_map, List.length_set] at * <;> omega))) (by (first | omega | (dsimp only <;> omega) | (simp (disch := omega) only [wrap_small, mid_eq, mid_eq1, mid_eq2, mid_eq3, List.length_map, List.length_set] <;> omega) | (simp (disch := omega) only [wrap_small, mid_eq, mid_eq1, mid_eq2, mid_eq3, List.length_map, List.length_set] at * <;> omega))) (by (first | omega | (dsimp only <;> omega) | (simp (disch := omega) only [wrap_small, mid_eq, mid_eq1, mid_eq2, mid_eq3, List.length_map, List.length_set] <;> omega) | (simp (disch := omega) only [wrap_small, mid_eq, mid_eq1, mid_eq2, mid_eq3, List.length_map, List.length_set] at * <;> omega))) (by (first | omega | (dsimp only <;> omega) | (simp (disch := omega) only [wrap_small, mid_eq, mid_eq1, mid_eq2, mid_eq3, List.length_map, List.length_set] <;> omega) | (simp (disch := omega) only [wrap_small, mid_eq, mid_eq1, mid_eq2, mid_eq3, List.length_map, List.length_set] at * <;> omega))) (by omega)) [none, some 1] ⟨rfl, ⟨rfl, rfl, ⟨rfl, rfl, rfl, rfl, by (first | rfl | omega | (dsimp only; omega) | (simp; done) | (simp; omega) | (simp [LstSt.init, LstSt.step, LstInv.init, CntSt.init, CntSt.step, CntInv.init, WhlSt.init, WhlSt.step]; done) | (simp [LstSt.init, LstSt.step, LstInv.init, CntSt.init, CntSt.step, CntInv.init, WhlSt.init, WhlSt.step]; omega))⟩, rfl, ⟨rfl, ⟨rfl, trivial⟩⟩, trivial⟩, ⟨⟨rfl, rfl, rfl⟩, trivial⟩, ⟨⟨rfl, rfl, rfl, rfl, by (first | rfl | omega | (dsimp only; omega) | (simp; done) | (simp; omega) | (simp [LstSt.init, LstSt.step, LstInv.init, CntSt.init, CntSt.step, CntInv.init, WhlSt.init, WhlSt.step]; done) | (simp [LstSt.init, LstSt.step, LstInv.init, CntSt.init, CntSt.step, CntInv.init, WhlSt.init, WhlSt.step]; omega))⟩, trivial⟩⟩
    · refine seqE ?_
      refine .inr ⟨0, _, _, _, c_slices_swapRangeCmpFunc_int_c_impl_Order_1 x1.s.1 (IntKind.i64.wrap (p2 - x1.s.2.1)) (IntKind.i64.wrap ((IntKind.i64.wrap (p2 + x1.s.2.2)) - x1.s.2.1)) x1.s.2.1 p4_0 (by exact ⟨⟨hI1.1.1, by (first | omega | (dsimp only <;> omega) | (simp (disch := omega) only [wrap_small, mid_eq, mid_eq1, mid_eq2, mid_eq3, List.length_map, List.length_set] <;> omega) | (simp (disch := omega) only [wrap_small, mid_eq, mid_eq1, mid_eq2, mid_eq3, List.length_map, List.length_set] at * <;> omega))⟩, ⟨by (first | omega | (dsimp only <;> omega) | (simp (disch := omega) only [wrap_small, mid_eq, mid_eq1, mid_eq2, mid_eq3, List.length_map, List.length_set] <;> omega) | (simp (disch := omega) only [wrap_small, mid_eq, mid_eq1, mid_eq2, mid_eq3, List.length_map, List.length_set] at * <;> omega)), by (first | omega | (dsimp only <;> omega) | (simp (disch := omega) only [wrap_small, mid_eq, mid_eq1, mid_eq2, mid_eq3, List.length_map, List.length_set] <;> omega) | (simp (disch := omega) only [wrap_small, mid_eq, mid_eq1, mid_eq2, mid_eq3, List.length_map, List.length_set] at * <;> omega)), by (first | omega | (dsimp only <;> omega) | (simp (disch := omega) only [wrap_small, mid_eq, mid_eq1, mid_eq2, mid_eq3, List.length_map, List.length_set] <;> omega) | (simp (disch := omega) only [wrap_small, mid_eq, mid_eq1, mid_eq2, mid_eq3, List.length_map, List.length_set] at * <;> omega))⟩, by (first | omega | (dsimp only <;> omega) | (simp (disch := omega) only [wrap_small, mid_eq, mid_eq1, mid_eq2, mid_eq3, List.length_map, List.length_set] <;> omega) | (simp (disch := omega) only [wrap_small, mid_eq, mid_eq1, mid_eq2, mid_eq3, List.length_map, List.length_set] at * <;> omega)), by (first | omega | (dsimp only <;> omega) | (simp (disch := omega) only [wrap_small, mid_eq, mid_eq1, mid_eq2, mid_eq3, List.length_map, List.length_set] <;> omega) | (simp (disch := omega) only [wrap_small, mid_eq, mid_eq1, mid_eq2, mid_eq3, List.length_map, List.length_set] at * <;> omega))⟩), (FzAs.same _), .inr ⟨ownSl own_cInt _, ?_⟩⟩
      refine litE (m := 3) rfl ?_
      have hz4 := len_slices_swapRangeCmpFunc_int_c_impl_Order_1 x1.s.1 (IntKind.i64.wrap (p2 - x1.s.2.1)) (IntKind.i64.wrap ((IntKind.i64.wrap (p2 + x1.s.2.2)) - x1.s.2.1)) x1.s.2.1 p4_0
      exact x1.goE hb1 (show (fun s : (List Int) × Int × Int => (Srt (fun v : Int => 0 ≤ v ∧ v < ((p4_0.length : Nat) : Int)) s.1 ∧ s.1.length = p0.length) ∧ 0 < s.2.1 ∧ 0 < s.2.2 ∧ p1 ≤ p2 - s.2.1 ∧ p2 + s.2.2 ≤ p3) ((slices_swapRangeCmpFunc_int_c_impl_Order_1 x1.s.1 (IntKind.i64.wrap (p2 - x1.s.2.1)) (IntKind.i64.wrap ((IntKind.i64.wrap (p2 + x1.s.2.2)) - x1.s.2.1)) x1.s.2.1 p4_0), x1.s.2.1, (IntKind.i64.wrap (x1.s.2.2 - x1.s.2.1))) ∧ (fun s : (List Int) × Int × Int => (s.2.1 + s.2.2).toNat) ((slices_swapRangeCmpFunc_int_c_impl_Order_1 x1.s.1 (IntKind.i64.wrap (p2 - x1.s.2.1)) (IntKind.i64.wrap ((IntKind.i64.wrap (p2 + x1.s.2.2)) - x1.s.2.1)) x1.s.2.1 p4_0), x1.s.2.1, (IntKind.i64.wrap (x1.s.2.2 - x1.s.2.1))) < (fun s : (List Int) × Int × Int => (s.2.1 + s.2.2).toNat) x1.s by refine ⟨⟨?_, by (first | omega | (dsimp only <;> omega) | (simp (disch := omega) only [wrap_small, mid_eq, mid_eq1, mid_eq2, mid_eq3, List.length_map, List.length_set] <;> omega) | (simp (disch := omega) only [wrap_small, mid_eq, mid_eq1, mid_eq2, mid_eq3, List.length_map, List.length_set] at * <;> omega)), by (first | omega | (dsimp only <;> omega) | (simp (disch := omega) only [wrap_small, mid_eq, mid_eq1, mid_eq2, mid_eq3, List.length_map, List.length_set] <;> omega) | (simp (disch := omega) only [wrap_small, mid_eq, mid_eq1, mid_eq2, mid_eq3, List.length_map, List.length_set] at * <;> omega)), by (first | omega | (dsimp only <;> omega) | (simp (disch := omega) only [wrap_small, mid_eq, mid_eq1, mid_eq2, mid_eq3, List.length_map, List.length_set] <;> omega) | (simp (disch := omega) only [wrap_small, mid_eq, mid_eq1, mid_eq2, mid_eq3, List.length_map, List.length_set] at * <;> omega)), by (first | omega | (dsimp only <;> omega) | (simp (disch := omega) only [wrap_small, mid_eq, mid_eq1, mid_eq2, mid_eq3, List.length_map, List.length_set] <;> omega) | (simp (disch := omega) only [wrap_small, mid_eq, mid_eq1, mid_eq2, mid_eq3, List.length_map, List.length_set] at * <;> omega))⟩, by (first | omega | (dsimp only <;> omega) | (simp (disch := omega) only [wrap_small, mid_eq, mid_eq1, mid_eq2, mid_eq3, List.length_map, List.length_set] <;> omega) | (simp (disch := omega) only [wrap_small, mid_eq, mid_eq1, mid_eq2, mid_eq3, List.length_map, List.length_set] at * <;> omega))⟩; (show Sz _ p0.length _); dsimp only; rw [e_slices_swapRangeCmpFunc_int_c_impl_Order_1]; exact sz_swap (N := p0.length) hI1.1 (by (first | omega | (dsimp only <;> omega) | (simp (disch := omega) only [wrap_small, mid_eq, mid_eq1, mid_eq2, mid_eq3, List.length_map, List.length_set] <;> omega) | (simp (disch := omega) only [wrap_small, mid_eq, mid_eq1, mid_eq2, mid_eq3, List.length_map, List.length_set] at * <;> omega))) (by (first | omega | (dsimp only <;> omega) | (simp (disch := omega) only [wrap_small, mid_eq, mid_eq1, mid_eq2, mid_eq3, List.length_map, List.length_set] <;> omega) | (simp (disch := omega) only [wrap_small, mid_eq, mid_eq1, mid_eq2, mid_eq3, List.length_map, List.length_set] at * <;> omega))) (by (first | omega | (dsimp only <;> omega) | (simp (disch := omega) only [wrap_small, mid_eq, mid_eq1, mid_eq2, mid_eq3, List.length_map, List.length_set] <;> omega) | (simp (disch := omega) only [wrap_small, mid_eq, mid_eq1, mid_eq2, mid_eq3, List.length_map, List.length_set] at * <;> omega))) (by (first | omega | (dsimp only <;> omega) | (simp (disch := omega) only [wrap_small, mid_eq, mid_eq1, mid_eq2, mid_eq3, List.length_map, List.length_set] <;> omega) | (simp (disch := omega) only [wrap_small, mid_eq, mid_eq1, mid_eq2, mid_eq3, List.length_map, List.length_set] at * <;> omega))) (by (first | omega | (dsimp only <;> omega) | (simp (disch := omega) only [wrap_small, mid_eq, mid_eq1, mid_eq2, mid_eq3, List.length_map, List.length_set] <;> omega) | (simp (disch := omega) only [wrap_small, mid_eq, mid_eq1, mid_eq2, mid_eq3, List.length_map, List.length_set] at * <;> omega))) (by omega)) [none, some 1] ⟨rfl, ⟨rfl, rfl, ⟨rfl, rfl, rfl, rfl, by (first | rfl | omega | (dsimp only; omega) | (simp; done) | (simp; omega) | (simp [LstSt.init, LstSt.step, LstInv.init, CntSt.init, CntSt.step, CntInv.init, WhlSt.init, WhlSt.step]; done) | (simp [LstSt.init, LstSt.step, LstInv.init, CntSt.init, CntSt.step, CntInv.init, WhlSt.init, WhlSt.step]; omega))⟩, rfl, ⟨rfl, ⟨rfl, trivial⟩⟩, trivial⟩, ⟨⟨rfl, rfl, rfl⟩, trivial⟩, ⟨⟨rfl, rfl, rfl, rfl, by (first | rfl | omega | (dsimp only; omega) | (simp; done) | (simp; omega) | (simp [LstSt.init, LstSt.step, LstInv.init, CntSt.init, CntSt.step, CntInv.init, WhlSt.init, WhlSt.step]; done) | (simp [LstSt.init, LstSt.step, LstInv.init, CntSt.init, CntSt.step, CntInv.init, WhlSt.init, WhlSt.step]; omega))⟩, trivial⟩⟩
  · have hg := finE hg (x1.outS hb1)
    refine .inr ⟨0, _, _, _, c_slices_swapRangeCmpFunc_int_c_impl_Order_1 x1.s.1 (IntKind.i64.wrap (p2 - x1.s.2.1)) p2 x1.s.2.1 p4_0 (by exact ⟨⟨hI1.1.1, by (first | omega | (dsimp only <;> omega) | (simp (disch := omega) only [wrap_small, mid_eq, mid_eq1, mid_eq2, mid_eq3, List.length_map, List.length_set] <;> omega) | (simp (disch := omega) only [wrap_small, mid_eq, mid_eq1, mid_eq2, mid_eq3, List.length_map, List.length_set] at * <;> omega))⟩, ⟨by (first | omega | (dsimp only <;> omega) | (simp (disch := omega) only [wrap_small, mid_eq, mid_eq1, mid_eq2, mid_eq3, List.length_map, List.length_set] <;> omega) | (simp (disch := omega) only [wrap_small, mid_eq, mid_eq1, mid_eq2, mid_eq3, List.length_map, List.length_set] at * <;> omega)), by (first | omega | (dsimp only <;> omega) | (simp (disch := omega) only [wrap_small, mid_eq, mid_eq1, mid_eq2, mid_eq3, List.length_map, List.length_set] <;> omega) | (simp (disch := omega) only [wrap_small, mid_eq, mid_eq1, mid_eq2, mid_eq3, List.length_map, List.length_set] at * <;> omega)), by (first | omega | (dsimp only <;> omega) | (simp (disch := omega) only [wrap_small, mid_eq, mid_eq1, mid_eq2, mid_eq3, List.length_map, List.length_set] <;> omega) | (simp (disch := omega) only [wrap_small, mid_eq, mid_eq1, mid_eq2, mid_eq3, List.length_map, List.length_set] at * <;> omega))⟩, by (first | omega | (dsimp only <;> omega) | (simp (disch := omega) only [wrap_small, mid_eq, mid_eq1, mid_eq2, mid_eq3, List.length_map, List.length_set] <;> omega) | (simp (disch := omega) only [wrap_small, mid_eq, mid_eq1, mid_eq2, mid_eq3, List.length_map, List.length_set] at * <;> omega)), by (first | omega | (dsimp only <;> omega) | (simp (disch := omega) only [wrap_small, mid_eq, mid_eq1, mid_eq2, mid_eq3, List.length_map, List.length_set] <;> omega) | (simp (disch := omega) only [wrap_small, mid_eq, mid_eq1, mid_eq2, mid_eq3, List.length_map, List.length_set] at * <;> omega))⟩), (FzAs.same _), .inr ⟨ownSl own_cInt _, ?_⟩⟩
    refine litE (m := 3) rfl ?_
    have hz5 := len_slices_swapRangeCmpFunc_int_c_impl_Order_1 x1.s.1 (IntKind.i64.wrap (p2 - x1.s.2.1)) p2 x1.s.2.1 p4_0
    exact leafM hown hg
def slices_symMergeCmpFunc_int_c_impl_Order_1_b2 (p1 : Int) (i2 : Nat) (s2 : (List Int)) : Step ((List Int)) (List Int) :=
  (.next (List.set (List.set s2 ((p1 + ((i2 : Nat) : Int))).toNat (s2[((IntKind.i64.wrap ((p1 + ((i2 : Nat) : Int)) + 1))).toNat]?.getD default)) ((IntKind.i64.wrap ((p1 + ((i2 : Nat) : Int)) + 1))).toNat (s2[((p1 + ((i2 : Nat) : Int))).toNat]?.getD default)))
def slices_symMergeCmpFunc_int_c_impl_Order_1_b1 (p0 : (List Int)) (p1 : Int) (p4_0 : (List Deed)) (s1 : Int × Int) : Step (Int × Int) (List Int) :=
  (bif (decide (s1.1 < s1.2)) then (bif (decide ((impl_Order_1 (p0[((IntKind.i64.wrap (iShr .u64 (IntKind.u64.wrap (IntKind.i64.wrap (s1.1 + s1.2))) 1))).toNat]?.getD default) (p0[(p1).toNat]?.getD default) p4_0) < 0)) then (.next ((IntKind.i64.wrap ((IntKind.i64.wrap (iShr .u64 (IntKind.u64.wrap (IntKind.i64.wrap (s1.1 + s1.2))) 1)) + 1)), s1.2)) else (.next (s1.1, (IntKind.i64.wrap (iShr .u64 (IntKind.u64.wrap (IntKind.i64.wrap (s1.1 + s1.2))) 1))))) else (.stop (s1.1, s1.2)))
def slices_symMergeCmpFunc_int_c_impl_Order_1_b4 (s3 : Int × Int) (s4 : (List Int) × Int) : Step ((List Int) × Int) (List Int) :=
  (bif (decide (s4.2 > s3.1)) then (.next ((List.set (List.set s4.1 (s4.2).toNat (s4.1[((IntKind.i64.wrap (s4.2 - 1))).toNat]?.getD default)) ((IntKind.i64.wrap (s4.2 - 1))).toNat (s4.1[(s4.2).toNat]?.getD default)), (IntKind.i64.wrap (s4.2 - 1)))) else (.stop (s4.1, s4.2)))
def slices_symMergeCmpFunc_int_c_impl_Order_1_b3 (p0 : (List Int)) (p2 : Int) (p4_0 : (List Deed)) (s3 : Int × Int) : Step (Int × Int) (List Int) :=
  (bif (decide (s3.1 < s3.2)) then (bif (!(decide ((impl_Order_1 (p0[(p2).toNat]?.getD default) (p0[((IntKind.i64.wrap (iShr .u64 (IntKind.u64.wrap (IntKind.i64.wrap (s3.1 + s3.2))) 1))).toNat]?.getD default) p4_0) < 0))) then (.next ((IntKind.i64.wrap ((IntKind.i64.wrap (iShr .u64 (IntKind.u64.wrap (IntKind.i64.wrap (s3.1 + s3.2))) 1)) + 1)), s3.2)) else (.next (s3.1, (IntKind.i64.wrap (iShr .u64 (IntKind.u64.wrap (IntKind.i64.wrap (s3.1 + s3.2))) 1))))) else (.stop (s3.1, s3.2)))
def slices_symMergeCmpFunc_int_c_impl_Order_1_j5 (p2 : Int) (p1 : Int) (p3 : Int) : Step (Int × Int) (List Int) :=
  (bif (decide (p2 > (IntKind.i64.wrap (iShr .u64 (IntKind.u64.wrap (IntKind.i64.wrap (p1 + p3))) 1)))) then (.next ((IntKind.i64.wrap ((IntKind.i64.wrap ((IntKind.i64.wrap (iShr .u64 (IntKind.u64.wrap (IntKind.i64.wrap (p1 + p3))) 1)) + p2)) - p3)), (IntKind.i64.wrap (iShr .u64 (IntKind.u64.wrap (IntKind.i64.wrap (p1 + p3))) 1)))) else (.next (p1, p2)))
def slices_symMergeCmpFunc_int_c_impl_Order_1_j7 (s6 : Int × Int) (p2 : Int) (p1 : Int) (p3 : Int) (p0 : (List Int)) (p4_0 : (List Deed)) : Step ((List Int)) (List Int) :=
  (bif (decide (s6.1 < p2)) then (bif (decide (p2 < (IntKind.i64.wrap ((IntKind.i64.wrap ((IntKind.i64.wrap (iShr .u64 (IntKind.u64.wrap (IntKind.i64.wrap (p1 + p3))) 1)) + p2)) - s6.1)))) then (.next (slices_rotateCmpFunc_int_c_impl_Order_1 p0 s6.1 p2 (IntKind.i64.wrap ((IntKind.i64.wrap ((IntKind.i64.wrap (iShr .u64 (IntKind.u64.wrap (IntKind.i64.wrap (p1 + p3))) 1)) + p2)) - s6.1)) p4_0)) else (.next p0)) else (.next p0))
def slices_symMergeCmpFunc_int_c_impl_Order_1_j8 (r0 : (((List Int)) → (Int) → (Int) → (Int) → ((List Deed)) → ((List Int)))) (p1 : Int) (s6 : Int × Int) (p3 : Int) (s7 : (List Int)) (p4_0 : (List Deed)) : Step ((List Int)) (List Int) :=
  (bif (decide (p1 < s6.1)) then (bif (decide (s6.1 < (IntKind.i64.wrap (iShr .u64 (IntKind.u64.wrap (IntKind.i64.wrap (p1 + p3))) 1)))) then (.next (r0 s7 p1 s6.1 (IntKind.i64.wrap (iShr .u64 (IntKind.u64.wrap (IntKind.i64.wrap (p1 + p3))) 1)) p4_0)) else (.next s7)) else (.next s7))
def slices_symMergeCmpFunc_int_c_impl_Order_1_b6 (p0 : (List Int)) (p1 : Int) (p3 : Int) (p2 : Int) (p4_0 : (List Deed)) (s6 : Int × Int) : Step (Int × Int) (List Int) :=
  (bif (decide (s6.1 < s6.2)) then (bif (!(decide ((impl_Order_1 (p0[((IntKind.i64.wrap ((IntKind.i64.wrap ((IntKind.i64.wrap ((IntKind.i64.wrap (iShr .u64 (IntKind.u64.wrap (IntKind.i64.wrap (p1 + p3))) 1)) + p2)) - 1)) - (IntKind.i64.wrap (iShr .u64 (IntKind.u64.wrap (IntKind.i64.wrap (s6.1 + s6.2))) 1))))).toNat]?.getD default) (p0[((IntKind.i64.wrap (iShr .u64 (IntKind.u64.wrap (IntKind.i64.wrap (s6.1 + s6.2))) 1))).toNat]?.getD default) p4_0) < 0))) then (.next ((IntKind.i64.wrap ((IntKind.i64.wrap (iShr .u64 (IntKind.u64.wrap (IntKind.i64.wrap (s6.1 + s6.2))) 1)) + 1)), s6.2)) else (.next (s6.1, (IntKind.i64.wrap (iShr .u64 (IntKind.u64.wrap (IntKind.i64.wrap (s6.1 + s6.2))) 1))))) else (.stop (s6.1, s6.2)))
def slices_symMergeCmpFunc_int_c_impl_Order_1R : Nat → ((List Int)) → (Int) → (Int) → (Int) → ((List Deed)) → ((List Int))
  | 0, p0, _, _, _, _ => p0
  | n + 1, p0, p1, p2, p3, p4_0 => (bif ((IntKind.i64.wrap (p2 - p1)) == 1) then (Fin.get (fun s1 => (Fin.get (fun s2 => s2) (loopC (slices_symMergeCmpFunc_int_c_impl_Order_1_b2 p1) 0 p0 (((IntKind.i64.wrap (s1.1 - 1)) - p1)).toNat))) (loopW (slices_symMergeCmpFunc_int_c_impl_Order_1_b1 p0 p1 p4_0) ((fun s : Int × Int => (s.2 - s.1).toNat) (p2, p3)) (p2, p3))) else (bif ((IntKind.i64.wrap (p3 - p2)) == 1) then (Fin.get (fun s3 => (Fin.get (fun s4 => s4.1) (loopW (slices_symMergeCmpFunc_int_c_impl_Order_1_b4 s3) ((fun s : (List Int) × Int => (s.2 - s3.1).toNat) (p0, p2)) (p0, p2)))) (loopW (slices_symMergeCmpFunc_int_c_impl_Order_1_b3 p0 p2 p4_0) ((fun s : Int × Int => (s.2 - s.1).toNat) (p1, p2)) (p1, p2))) else (Step.get (fun s5 => (Fin.get (fun s6 => (Step.get (fun s7 => (Step.get (fun s8 => (bif (decide ((IntKind.i64.wrap (iShr .u64 (IntKind.u64.wrap (IntKind.i64.wrap (p1 + p3))) 1)) < (IntKind.i64.wrap ((IntKind.i64.wrap ((IntKind.i64.wrap (iShr .u64 (IntKind.u64.wrap (IntKind.i64.wrap (p1 + p3))) 1)) + p2)) - s6.1)))) then (bif (decide ((IntKind.i64.wrap ((IntKind.i64.wrap ((IntKind.i64.wrap (iShr .u64 (IntKind.u64.wrap (IntKind.i64.wrap (p1 + p3))) 1)) + p2)) - s6.1)) < p3)) then ((slices_symMergeCmpFunc_int_c_impl_Order_1R n) s8 (IntKind.i64.wrap (iShr .u64 (IntKind.u64.wrap (IntKind.i64.wrap (p1 + p3))) 1)) (IntKind.i64.wrap ((IntKind.i64.wrap ((IntKind.i64.wrap (iShr .u64 (IntKind.u64.wrap (IntKind.i64.wrap (p1 + p3))) 1)) + p2)) - s6.1)) p3 p4_0) else s8) else s8)) (slices_symMergeCmpFunc_int_c_impl_Order_1_j8 (slices_symMergeCmpFunc_int_c_impl_Order_1R n) p1 s6 p3 s7 p4_0))) (slices_symMergeCmpFunc_int_c_impl_Order_1_j7 s6 p2 p1 p3 p0 p4_0))) (loopW (slices_symMergeCmpFunc_int_c_impl_Order_1_b6 p0 p1 p3 p2 p4_0) ((fun s : Int × Int => (s.2 - s.1).toNat) (s5.1, s5.2)) (s5.1, s5.2)))) (slices_symMergeCmpFunc_int_c_impl_Order_1_j5 p2 p1 p3))))
theorem e_slices_symMergeCmpFunc_int_c_impl_Order_1R : ∀ (n : Nat) (p0 : List Int) (p1 p2 p3 : Int) (c : List Deed), slices_symMergeCmpFunc_int_c_impl_Order_1R n p0 p1 p2 p3 c = g_symMergeR n p0 p1 p2 p3 (fun x y => impl_Order_1 x y c) := by
  intro n
  induction n with
  | zero => intros; rfl
  | succ n ih =>
    intro p0 p1 p2 p3 c
    have h8 : ∀ (s6 : Int × Int) (s7 : List Int), slices_symMergeCmpFunc_int_c_impl_Order_1_j8 (slices_symMergeCmpFunc_int_c_impl_Order_1R n) p1 s6 p3 s7 c = g_symMerge_j8 (g_symMergeR n) p1 s6 p3 s7 (fun x y => impl_Order_1 x y c) := by
      intro s6 s7
      unfold slices_symMergeCmpFunc_int_c_impl_Order_1_j8 g_symMerge_j8
      simp only [ih]
    rw [slices_symMergeCmpFunc_int_c_impl_Order_1R.eq_2, g_symMergeR.eq_2]
    simp only [ih, h8]
    rfl
theorem len_slices_symMergeCmpFunc_int_c_impl_Order_1R (n : Nat) (p0 : List Int) (p1 p2 p3 : Int) (c : List Deed) : (slices_symMergeCmpFunc_int_c_impl_Order_1R n p0 p1 p2 p3 c).length = p0.length := by rw [e_slices_symMergeCmpFunc_int_c_impl_Order_1R]; exact len_g_symR ..
end Go.Proofs.Try.Ev
