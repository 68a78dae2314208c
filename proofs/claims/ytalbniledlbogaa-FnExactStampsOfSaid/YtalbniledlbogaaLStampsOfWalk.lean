import Derived.Test.YtalbniledlbogaaLTabsStamps
import Derived.Test.YtalbniledlbogaaEvCnt
import Derived.Test.YtalbniledlbogaaLSrtS
import Derived.Test.YtalbniledlbogaaEvS
set_option linter.unusedSectionVars false
namespace Go.Proofs.Try.Ev
open Go Go.Ev Go.Proofs
set_option maxHeartbeats 4000000
set_option maxRecDepth 100000
set_option linter.unusedSimpArgs false
set_option linter.unusedVariables false
set_option linter.unusedSectionVars false
structure Attr where
  Key : ByteArray
  Num : Bool
  N : Int
  Text : ByteArray
deriving DecidableEq, Inhabited
def Attr.cells (x : Attr) : List T := [.v (.string x.Key), .v (.bool x.Num), .v (.int .i64 x.N), .v (.string x.Text)]
theorem own_Attr (x : Attr) : OwnL (Attr.cells x) := ⟨.v _, .v _, .v _, .v _, trivial⟩
theorem frz_Attr (x : Attr) : frzL (Attr.cells x) = Attr.cells x := rfl
theorem fz_Attr (x : Attr) : (Attr.cells x).map T.fz = Attr.cells x := rfl
theorem fl_Attr (x : Attr) : (Attr.cells x).map T.flat = Attr.cells x := rfl
def Attr.bd (M : Nat) (x : Attr) : Prop := x.Key.size ≤ M ∧ x.Text.size ≤ M
def Attr.rg (x : Attr) : Prop := (x.Key).size ≤ 9223372036854775807 ∧ True ∧ I64 x.N ∧ (x.Text).size ≤ 9223372036854775807 ∧ True
theorem rg_Attr {x : Attr} (h : fitL (Attr.cells x)) : Attr.rg x := ⟨(Nat.le_of_ble_eq_true h.1), trivial, (range_of_fit h.2.2.1), (Nat.le_of_ble_eq_true h.2.2.2.1), trivial⟩
theorem Attr.rg.Key {x : Attr} (h : Attr.rg x) : (x.Key).size ≤ 9223372036854775807 := h.1
theorem Attr.rg.N {x : Attr} (h : Attr.rg x) : I64 x.N := h.2.2.1
theorem Attr.rg.Text {x : Attr} (h : Attr.rg x) : (x.Text).size ≤ 9223372036854775807 := h.2.2.2.1
structure Span where
  Trace : Int
  Id : Int
  Start : Int
  End : Int
  Err : Bool
  Attrs : (List Attr)
deriving DecidableEq, Inhabited
def Span.cells (o : Bool) (x : Span) : List T := [.v (.int .i64 x.Trace), .v (.int .i64 x.Id), .v (.int .i64 x.Start), .v (.int .i64 x.End), .v (.bool x.Err), .s o 4 (List.map Attr.cells x.Attrs)]
theorem own_Span (x : Span) : OwnL (Span.cells true x) := ⟨.v _, .v _, .v _, .v _, .v _, ownSl own_Attr _, trivial⟩
theorem frz_Span {o : Bool} (x : Span) : frzL (Span.cells o x) = Span.cells false x := by
  show [T.v (.int .i64 x.Trace), T.v (.int .i64 x.Id), T.v (.int .i64 x.Start), T.v (.int .i64 x.End), T.v (.bool x.Err), T.s false 4 (frzLL (List.map Attr.cells x.Attrs))] = _
  rw [frzMap (f := Attr.cells) (g := Attr.cells) frz_Attr x.Attrs]
  rfl
theorem sh_Span (x : Span) : (Span.cells false x).map T.sh = Span.cells false x := rfl
theorem fz_Span {o : Bool} (x : Span) : (Span.cells o x).map T.fz = Span.cells false x := by
  show [T.v (.int .i64 x.Trace), T.v (.int .i64 x.Id), T.v (.int .i64 x.Start), T.v (.int .i64 x.End), T.v (.bool x.Err), T.s false 4 (frzLL (List.map Attr.cells x.Attrs))] = _
  rw [frzMap (f := Attr.cells) (g := Attr.cells) frz_Attr x.Attrs]
  rfl
def Span.bd (M : Nat) (x : Span) : Prop := bdS Attr.bd M x.Attrs
def Span.rg (x : Span) : Prop := I64 x.Trace ∧ I64 x.Id ∧ I64 x.Start ∧ I64 x.End ∧ True ∧ ((x.Attrs).length ≤ 9223372036854775807 ∧ ∀ y ∈ x.Attrs, Attr.rg y) ∧ True
theorem rg_Span {o : Bool} {x : Span} (h : fitL (Span.cells o x)) : Span.rg x := ⟨(range_of_fit h.1), (range_of_fit h.2.1), (range_of_fit h.2.2.1), (range_of_fit h.2.2.2.1), trivial, ⟨by simpa using h.2.2.2.2.2.1.1, fun y0 hy0 => (rg_Attr (fitLL_map h.2.2.2.2.2.1.2 y0 hy0))⟩, trivial⟩
theorem Span.rg.Trace {x : Span} (h : Span.rg x) : I64 x.Trace := h.1
theorem Span.rg.Id {x : Span} (h : Span.rg x) : I64 x.Id := h.2.1
theorem Span.rg.Start {x : Span} (h : Span.rg x) : I64 x.Start := h.2.2.1
theorem Span.rg.End {x : Span} (h : Span.rg x) : I64 x.End := h.2.2.2.1
theorem Span.rg.Attrs {x : Span} (h : Span.rg x) : ((x.Attrs).length ≤ 9223372036854775807 ∧ ∀ y ∈ x.Attrs, Attr.rg y) := h.2.2.2.2.2.1
structure Deed where
  Op : Int
  Task : Int
  S : Span
  Trace : Int
  Stamp : Int
  Code : Int
  Keep : Bool
  Void : Bool
  Took : Int
  N : Int
  Forgot : Int
  Now : Int
  Inv : Int
  Lin : Int
  Res : Int
deriving DecidableEq, Inhabited
def Deed.cells (o : Bool) (x : Deed) : List T := [.v (.int .i64 x.Op), .v (.int .i64 x.Task), .v (.int .i64 x.S.Trace), .v (.int .i64 x.S.Id), .v (.int .i64 x.S.Start), .v (.int .i64 x.S.End), .v (.bool x.S.Err), .s o 4 (List.map Attr.cells x.S.Attrs), .v (.int .i64 x.Trace), .v (.int .i64 x.Stamp), .v (.int .i64 x.Code), .v (.bool x.Keep), .v (.bool x.Void), .v (.int .i64 x.Took), .v (.int .i64 x.N), .v (.int .i64 x.Forgot), .v (.int .i64 x.Now), .v (.int .i64 x.Inv), .v (.int .i64 x.Lin), .v (.int .i64 x.Res)]
theorem own_Deed (x : Deed) : OwnL (Deed.cells true x) := ⟨.v _, .v _, .v _, .v _, .v _, .v _, .v _, ownSl own_Attr _, .v _, .v _, .v _, .v _, .v _, .v _, .v _, .v _, .v _, .v _, .v _, .v _, trivial⟩
theorem frz_Deed {o : Bool} (x : Deed) : frzL (Deed.cells o x) = Deed.cells false x := by
  show [T.v (.int .i64 x.Op), T.v (.int .i64 x.Task), T.v (.int .i64 x.S.Trace), T.v (.int .i64 x.S.Id), T.v (.int .i64 x.S.Start), T.v (.int .i64 x.S.End), T.v (.bool x.S.Err), T.s false 4 (frzLL (List.map Attr.cells x.S.Attrs)), T.v (.int .i64 x.Trace), T.v (.int .i64 x.Stamp), T.v (.int .i64 x.Code), T.v (.bool x.Keep), T.v (.bool x.Void), T.v (.int .i64 x.Took), T.v (.int .i64 x.N), T.v (.int .i64 x.Forgot), T.v (.int .i64 x.Now), T.v (.int .i64 x.Inv), T.v (.int .i64 x.Lin), T.v (.int .i64 x.Res)] = _
  rw [frzMap (f := Attr.cells) (g := Attr.cells) frz_Attr x.S.Attrs]
  rfl
theorem sh_Deed (x : Deed) : (Deed.cells false x).map T.sh = Deed.cells false x := rfl
theorem fz_Deed {o : Bool} (x : Deed) : (Deed.cells o x).map T.fz = Deed.cells false x := by
  show [T.v (.int .i64 x.Op), T.v (.int .i64 x.Task), T.v (.int .i64 x.S.Trace), T.v (.int .i64 x.S.Id), T.v (.int .i64 x.S.Start), T.v (.int .i64 x.S.End), T.v (.bool x.S.Err), T.s false 4 (frzLL (List.map Attr.cells x.S.Attrs)), T.v (.int .i64 x.Trace), T.v (.int .i64 x.Stamp), T.v (.int .i64 x.Code), T.v (.bool x.Keep), T.v (.bool x.Void), T.v (.int .i64 x.Took), T.v (.int .i64 x.N), T.v (.int .i64 x.Forgot), T.v (.int .i64 x.Now), T.v (.int .i64 x.Inv), T.v (.int .i64 x.Lin), T.v (.int .i64 x.Res)] = _
  rw [frzMap (f := Attr.cells) (g := Attr.cells) frz_Attr x.S.Attrs]
  rfl
def Deed.bd (M : Nat) (x : Deed) : Prop := Span.bd M x.S
def Deed.rg (x : Deed) : Prop := I64 x.Op ∧ I64 x.Task ∧ I64 x.S.Trace ∧ I64 x.S.Id ∧ I64 x.S.Start ∧ I64 x.S.End ∧ True ∧ ((x.S.Attrs).length ≤ 9223372036854775807 ∧ ∀ y ∈ x.S.Attrs, Attr.rg y) ∧ I64 x.Trace ∧ I64 x.Stamp ∧ I64 x.Code ∧ True ∧ True ∧ I64 x.Took ∧ I64 x.N ∧ I64 x.Forgot ∧ I64 x.Now ∧ I64 x.Inv ∧ I64 x.Lin ∧ I64 x.Res ∧ True
theorem rg_Deed {o : Bool} {x : Deed} (h : fitL (Deed.cells o x)) : Deed.rg x := ⟨(range_of_fit h.1), (range_of_fit h.2.1), (range_of_fit h.2.2.1), (range_of_fit h.2.2.2.1), (range_of_fit h.2.2.2.2.1), (range_of_fit h.2.2.2.2.2.1), trivial, ⟨by simpa using h.2.2.2.2.2.2.2.1.1, fun y0 hy0 => (rg_Attr (fitLL_map h.2.2.2.2.2.2.2.1.2 y0 hy0))⟩, (range_of_fit h.2.2.2.2.2.2.2.2.1), (range_of_fit h.2.2.2.2.2.2.2.2.2.1), (range_of_fit h.2.2.2.2.2.2.2.2.2.2.1), trivial, trivial, (range_of_fit h.2.2.2.2.2.2.2.2.2.2.2.2.2.1), (range_of_fit h.2.2.2.2.2.2.2.2.2.2.2.2.2.2.1), (range_of_fit h.2.2.2.2.2.2.2.2.2.2.2.2.2.2.2.1), (range_of_fit h.2.2.2.2.2.2.2.2.2.2.2.2.2.2.2.2.1), (range_of_fit h.2.2.2.2.2.2.2.2.2.2.2.2.2.2.2.2.2.1), (range_of_fit h.2.2.2.2.2.2.2.2.2.2.2.2.2.2.2.2.2.2.1), (range_of_fit h.2.2.2.2.2.2.2.2.2.2.2.2.2.2.2.2.2.2.2.1), trivial⟩
theorem Deed.rg.Op {x : Deed} (h : Deed.rg x) : I64 x.Op := h.1
theorem Deed.rg.Task {x : Deed} (h : Deed.rg x) : I64 x.Task := h.2.1
theorem Deed.rg.S {x : Deed} (h : Deed.rg x) : Span.rg x.S := ⟨h.2.2.1, h.2.2.2.1, h.2.2.2.2.1, h.2.2.2.2.2.1, h.2.2.2.2.2.2.1, h.2.2.2.2.2.2.2.1, trivial⟩
theorem Deed.rg.Trace {x : Deed} (h : Deed.rg x) : I64 x.Trace := h.2.2.2.2.2.2.2.2.1
theorem Deed.rg.Stamp {x : Deed} (h : Deed.rg x) : I64 x.Stamp := h.2.2.2.2.2.2.2.2.2.1
theorem Deed.rg.Code {x : Deed} (h : Deed.rg x) : I64 x.Code := h.2.2.2.2.2.2.2.2.2.2.1
theorem Deed.rg.Took {x : Deed} (h : Deed.rg x) : I64 x.Took := h.2.2.2.2.2.2.2.2.2.2.2.2.2.1
theorem Deed.rg.N {x : Deed} (h : Deed.rg x) : I64 x.N := h.2.2.2.2.2.2.2.2.2.2.2.2.2.2.1
theorem Deed.rg.Forgot {x : Deed} (h : Deed.rg x) : I64 x.Forgot := h.2.2.2.2.2.2.2.2.2.2.2.2.2.2.2.1
theorem Deed.rg.Now {x : Deed} (h : Deed.rg x) : I64 x.Now := h.2.2.2.2.2.2.2.2.2.2.2.2.2.2.2.2.1
theorem Deed.rg.Inv {x : Deed} (h : Deed.rg x) : I64 x.Inv := h.2.2.2.2.2.2.2.2.2.2.2.2.2.2.2.2.2.1
theorem Deed.rg.Lin {x : Deed} (h : Deed.rg x) : I64 x.Lin := h.2.2.2.2.2.2.2.2.2.2.2.2.2.2.2.2.2.2.1
theorem Deed.rg.Res {x : Deed} (h : Deed.rg x) : I64 x.Res := h.2.2.2.2.2.2.2.2.2.2.2.2.2.2.2.2.2.2.2.1
theorem wrapD (n : Int) : IntKind.i64.wrap n = if 9223372036854775808 ≤ n % 18446744073709551616 then n % 18446744073709551616 - 18446744073709551616 else n % 18446744073709551616 := by
  simp [IntKind.wrap, IntKind.bits, IntKind.signed]
theorem wrap_wrap_add (a b : Int) : IntKind.i64.wrap (IntKind.i64.wrap a + b) = IntKind.i64.wrap (a + b) := by
  rw [wrapD, wrapD, wrapD]
  split <;> split <;> split <;> omega
theorem wrap_add_wrap (a b : Int) : IntKind.i64.wrap (a + IntKind.i64.wrap b) = IntKind.i64.wrap (a + b) := by
  rw [Int.add_comm, wrap_wrap_add, Int.add_comm]
theorem wrap_idem (a : Int) : IntKind.i64.wrap (IntKind.i64.wrap a) = IntKind.i64.wrap a := by
  have := wrap_wrap_add a 0
  simpa using this
def isum {α : Type} (f : α → Int) : List α → Int
  | [] => 0
  | a :: l => f a + isum f l
theorem isum_append {α : Type} (f : α → Int) : ∀ (l m : List α), isum f (l ++ m) = isum f l + isum f m
  | [], m => by simp [isum]
  | a :: l, m => by simp only [List.cons_append, isum, isum_append f l m]; omega
theorem isum_flat {α β : Type} (f : β → Int) (g : α → List β) : ∀ l : List α, isum f (l.flatMap g) = isum (fun a => isum f (g a)) l
  | [] => rfl
  | a :: l => by rw [List.flatMap_cons, isum_append, isum, isum_flat f g l]
theorem sum_loop {α ρ : Type} {f : α → Int} {b : Nat → Int → α → Step Int ρ} : ∀ (l : List α) (i : Nat) (s : Int), IntKind.i64.wrap s = s → (∀ i s, ∀ a ∈ l, IntKind.i64.wrap s = s → b i s a = .next (IntKind.i64.wrap (s + f a))) → loopL b i s l = .fin (IntKind.i64.wrap (s + isum f l))
  | [], i, s, hs, hb => by simp [loopL, isum, hs]
  | a :: l, i, s, hs, hb => by
    unfold loopL
    rw [hb i s a (by simp) hs]
    simp only
    rw [sum_loop l (i + 1) _ (wrap_idem _) (fun i s x hx => hb i s x (by simp [hx])), wrap_wrap_add, isum, Int.add_assoc]
theorem app_loop {α β ρ : Type} {f : α → List β} {b : Nat → List β → α → Step (List β) ρ} (hb : ∀ i s a, b i s a = .next (s ++ f a)) : ∀ (l : List α) (i : Nat) (s : List β), loopL b i s l = .fin (s ++ l.flatMap f)
  | [], i, s => by simp [loopL]
  | a :: l, i, s => by
    unfold loopL
    rw [hb]
    simp only
    rw [app_loop hb l (i + 1), List.flatMap_cons, List.append_assoc]
theorem wrap_len {n : Nat} (h : n ≤ 9223372036854775807) : IntKind.i64.wrap ((n : Nat) : Int) = ((n : Nat) : Int) := Go.Ev.wrap_small (by omega) (by omega)
def ntInv (s : ByteArray × Int) : Prop := (s.1.size = 0 ∧ s.2.natAbs ≤ 9223372036854775808) ∨ s.1.size + s.2.natAbs ≤ 4611686018427387904
def ntM (s : ByteArray × Int) : Nat := s.2.natAbs
theorem size_str1 (c : Int) : (strOfNums [c]).size = 1 := rfl
theorem nt_abs {x : Int} (h : x.natAbs ≤ 9223372036854775808) : (IntKind.i64.wrap (x.tdiv 10)).natAbs = x.natAbs / 10 := by
  have e : (x.tdiv 10).natAbs = x.natAbs / 10 := by rw [Int.natAbs_tdiv]; rfl
  generalize x.tdiv 10 = q at e ⊢
  have hq : q.natAbs ≤ 922337203685477580 := by omega
  have hq1 : -9223372036854775808 ≤ q := by clear e; omega
  have hq2 : q ≤ 9223372036854775807 := by clear e; omega
  rw [Go.Ev.wrap_small hq1 hq2, e]
theorem nt_step {s : ByteArray} {x c : Int} (h : ntInv (s, x)) (hx : x ≠ 0) : ntInv (strOfNums [c] ++ s, IntKind.i64.wrap (x.tdiv 10)) ∧ ntM (strOfNums [c] ++ s, IntKind.i64.wrap (x.tdiv 10)) < ntM (s, x) := by
  unfold ntInv ntM at *
  simp only at h ⊢
  rw [nt_abs (by omega), ByteArray.size_append, size_str1]
  omega
theorem nt_cat {s : ByteArray} {x c : Int} (h : ntInv (s, x)) (hx : (x != 0) = true) : (((strOfNums [c]).size + s.size : Nat) : Int) ≤ 9223372036854775807 := by
  unfold ntInv at h
  simp only [bne_iff_ne] at h hx
  rw [size_str1]
  omega
theorem nt_cat2 {s : ByteArray} {x : Int} {b : UInt8} (h : ntInv (s, x)) : (((ByteArray.mk #[b]).size + s.size : Nat) : Int) ≤ 9223372036854775807 := by
  unfold ntInv at h
  simp only at h
  have : (ByteArray.mk #[b]).size = 1 := rfl
  omega
def mtInv (s : Int × ByteArray) : Prop := ntInv (s.2, s.1)
def mtM (s : Int × ByteArray) : Nat := ntM (s.2, s.1)
theorem mt_ne {x : Int} (h : decide (x > 0) = true) : x ≠ 0 := by have : x > 0 := by simpa using h
                                                                  omega
theorem mt_step {s : Int × ByteArray} {c : Int} (h : mtInv s) (hx : decide (s.1 > 0) = true) : mtInv (IntKind.i64.wrap (s.1.tdiv 10), strOfNums [c] ++ s.2) ∧ mtM (IntKind.i64.wrap (s.1.tdiv 10), strOfNums [c] ++ s.2) < mtM s := nt_step h (mt_ne hx)
theorem mt_cat {s : Int × ByteArray} {c : Int} (h : mtInv s) (hx : decide (s.1 > 0) = true) : (((strOfNums [c]).size + s.2.size : Nat) : Int) ≤ 9223372036854775807 := nt_cat h (by simpa using mt_ne hx)
theorem mt_cat2 {s : Int × ByteArray} {b : UInt8} (h : mtInv s) : (((ByteArray.mk #[b]).size + s.2.size : Nat) : Int) ≤ 9223372036854775807 := nt_cat2 h
def laws_markText_b1 (s1 : Int × ByteArray) : Step (Int × ByteArray) ByteArray :=
  (bif (decide (s1.1 > 0)) then (.next ((IntKind.i64.wrap (Int.tdiv s1.1 10)), ((strOfNums [(IntKind.u8.wrap (IntKind.i64.wrap (48 + (Int.tmod s1.1 10))))]) ++ s1.2))) else (.stop (s1.1, s1.2)))
def laws_markText (p0 : Int) : ByteArray :=
  (bif (decide (p0 ≤ 0)) then (ByteArray.mk #[109, 48]) else (Fin.get (fun s1 => ((ByteArray.mk #[109]) ++ s1.2)) (loopW laws_markText_b1 (mtM (p0, (ByteArray.mk #[]))) (p0, (ByteArray.mk #[])))))
theorem cr_laws_markText (p0 : Int) (hr0 : I64 p0) : FnOk prog 104 [.one (.v (.int .i64 p0))] ⟨.one (.v (.string (laws_markText p0))), [], [], false⟩ := by
  refine FnOk.intro (E := env) envOk wide func104 rfl (by kernel_rfl) rfl rfl ?_
  have hg := laws_markText.eq_1 p0
  have hown : ∀ g : ByteArray, AV.Own (AV.one (.v (.string g))) := fun g => .v _
  refine seqE ?_
  refine seqE ?_
  refine seqE ?_
  refine brD hg (fun hg h1 => ?_) (fun hg h1 => ?_)
  · refine seqE ?_
    exact leafE hown hg
  · refine seqE ?_
    refine seqE ?_
    refine loopWE (m := mtM) (s0 := (p0, (ByteArray.mk #[]))) mtInv hg (by left; have := hr0.1; have := hr0.2; exact ⟨rfl, by show Int.natAbs p0 ≤ _; omega⟩) [] (fun x1 => [(0, .one (.v (.int .i64 x1.s.1))), (3, .one (.v (.string x1.s.2)))]) (fun x1 => []) [] ?_ (fun x1 => ?_)
    · exact ⟨rfl, ⟨rfl, rfl, trivial⟩, trivial, trivial⟩
    have hI1 := x1.hI
    try dsimp only at hI1
    have hb1 := x1.bdy.trans (laws_markText_b1.eq_1 ..)
    refine seqE ?_
    refine seqE ?_
    refine brD hb1 (fun hb1 h2 => ?_) (fun hb1 h2 => ?_)
    · refine seqE ?_
      refine andE (by (first | omega | (simp (disch := omega) only [wrap_small, mid_eq, List.length_map]; omega) | (simp; done) | (simp; omega) | (simp at *; omega) | (simp at *; done) | (simp_all; done) | (simp_all; omega))) ?_
      refine litE (m := 0) rfl ?_
      refine andE (by first | exact mt_cat x1.hI (by assumption) | exact mt_cat2 x1.hI) ?_
      refine andE (by (first | omega | (simp (disch := omega) only [wrap_small, mid_eq, List.length_map]; omega) | (simp; done) | (simp; omega) | (simp at *; omega) | (simp at *; done) | (simp_all; done) | (simp_all; omega))) ?_
      exact x1.goE hb1 (show mtInv ((IntKind.i64.wrap (Int.tdiv x1.s.1 10)), ((strOfNums [(IntKind.u8.wrap (IntKind.i64.wrap (48 + (Int.tmod x1.s.1 10))))]) ++ x1.s.2)) ∧ mtM ((IntKind.i64.wrap (Int.tdiv x1.s.1 10)), ((strOfNums [(IntKind.u8.wrap (IntKind.i64.wrap (48 + (Int.tmod x1.s.1 10))))]) ++ x1.s.2)) < mtM x1.s by exact mt_step x1.hI (by first | assumption | (simpa using h3) | (simpa using h2))) [] ⟨rfl, ⟨rfl, rfl, trivial⟩, trivial, trivial⟩
    · have hg := finE hg (x1.outS hb1)
      refine seqE ?_
      refine andE (by first | exact mt_cat x1.hI (by assumption) | exact mt_cat2 x1.hI) ?_
      exact leafE hown hg
theorem c_laws_markText (p0 : Int) : FnOk prog 104 [.one (.v (.int .i64 p0))] ⟨.one (.v (.string (laws_markText p0))), [], [], false⟩ :=
  FnOk.fits ⟨_, func104, by kernel_rfl, by kernel_rfl⟩ (fun hf => cr_laws_markText p0 (range_of_fit hf.1))
def laws_szAttr (p0 : Attr) (p1 : Int) : Int :=
  (bif (decide ((IntKind.i64.wrap (p1 - (((p0.Key).size : Nat) : Int))) < 0)) then (-1) else (bif (decide ((IntKind.i64.wrap ((IntKind.i64.wrap (p1 - (((p0.Key).size : Nat) : Int))) - (((p0.Text).size : Nat) : Int))) < 0)) then (-1) else (IntKind.i64.wrap ((IntKind.i64.wrap (p1 - (((p0.Key).size : Nat) : Int))) - (((p0.Text).size : Nat) : Int)))))
theorem c_laws_szAttr (p0 : Attr) (p1 : Int) : FnOk prog 162 [.agg (Attr.cells p0), .one (.v (.int .i64 p1))] ⟨.one (.v (.int .i64 (laws_szAttr p0 p1))), [], [], false⟩ := by
  refine FnOk.intro (E := env) envOk wide func162 rfl (by kernel_rfl) rfl rfl ?_
  have hg := laws_szAttr.eq_1 p0 p1
  have hown : ∀ g : Int, AV.Own (AV.one (.v (.int .i64 g))) := fun g => .v _
  refine seqE ?_
  refine litE (m := 0) rfl ?_
  refine seqE ?_
  refine lenS fun hN1 => ?_
  refine seqE ?_
  refine seqE ?_
  refine brD hg (fun hg h2 => ?_) (fun hg h2 => ?_)
  · refine seqE ?_
    exact leafE hown hg
  · refine seqE ?_
    refine lenS fun hN3 => ?_
    refine seqE ?_
    refine seqE ?_
    refine brD hg (fun hg h4 => ?_) (fun hg h4 => ?_)
    · refine seqE ?_
      exact leafE hown hg
    · refine seqE ?_
      exact leafE hown hg
theorem szd_laws_szAttr : Szd Attr.bd laws_szAttr := by
  intro x left hb h0 h1 h2
  unfold laws_szAttr at h2 ⊢
  unfold Attr.bd at hb ⊢
  cases c0 : decide ((IntKind.i64.wrap (left - (((x.Key).size : Nat) : Int))) < 0) with
  | true => simp [c0] at h2
  | false =>
  have p0 : 0 ≤ (IntKind.i64.wrap (left - (((x.Key).size : Nat) : Int))) := by simpa using c0
  have w0 : (IntKind.i64.wrap (left - (((x.Key).size : Nat) : Int))) = left - (((x.Key).size : Nat) : Int) := by have := hb.1; rw [Go.Ev.wrap_small] <;> omega
  have b0 : (x.Key).size ≤ 1048576 := by omega
  have u0 : (IntKind.i64.wrap (left - (((x.Key).size : Nat) : Int))) ≤ left := by omega
  have v0 : (IntKind.i64.wrap (left - (((x.Key).size : Nat) : Int))) ≤ 1048576 := by omega
  cases c1 : decide ((IntKind.i64.wrap ((IntKind.i64.wrap (left - (((x.Key).size : Nat) : Int))) - (((x.Text).size : Nat) : Int))) < 0) with
  | true => simp [c0, c1] at h2
  | false =>
  have p1 : 0 ≤ (IntKind.i64.wrap ((IntKind.i64.wrap (left - (((x.Key).size : Nat) : Int))) - (((x.Text).size : Nat) : Int))) := by simpa using c1
  have w1 : (IntKind.i64.wrap ((IntKind.i64.wrap (left - (((x.Key).size : Nat) : Int))) - (((x.Text).size : Nat) : Int))) = (IntKind.i64.wrap (left - (((x.Key).size : Nat) : Int))) - (((x.Text).size : Nat) : Int) := by have := hb.2; rw [Go.Ev.wrap_small] <;> omega
  have b1 : (x.Text).size ≤ 1048576 := by omega
  have u1 : (IntKind.i64.wrap ((IntKind.i64.wrap (left - (((x.Key).size : Nat) : Int))) - (((x.Text).size : Nat) : Int))) ≤ (IntKind.i64.wrap (left - (((x.Key).size : Nat) : Int))) := by omega
  have v1 : (IntKind.i64.wrap ((IntKind.i64.wrap (left - (((x.Key).size : Nat) : Int))) - (((x.Text).size : Nat) : Int))) ≤ 1048576 := by omega
  simp only [c0, c1, cond_false] at h2 ⊢
  exact ⟨⟨b0, b1⟩, by omega⟩
def laws_szAttrS_b1 (i1 : Nat) (s1 : Int) (a1 : Attr) : Step (Int) Int :=
  (bif (decide ((laws_szAttr a1 s1) < 0)) then (.done (-1)) else (.next (laws_szAttr a1 s1)))
def laws_szAttrS (p0 : (List Attr)) (p1 : Int) : Int :=
  (bif (decide ((IntKind.i64.wrap (p1 - (((p0).length : Nat) : Int))) < 0)) then (-1) else (Fin.get (fun s1 => s1) (loopL laws_szAttrS_b1 0 (IntKind.i64.wrap (p1 - (((p0).length : Nat) : Int))) p0)))
theorem c_laws_szAttrS (p0 : (List Attr)) (p1 : Int) : FnOk prog 141 [.one (.s false 4 (List.map Attr.cells p0)), .one (.v (.int .i64 p1))] ⟨.one (.v (.int .i64 (laws_szAttrS p0 p1))), [], [], false⟩ := by
  refine FnOk.intro (E := env) envOk wide func141 rfl (by kernel_rfl) rfl rfl ?_
  have hg := laws_szAttrS.eq_1 p0 p1
  have hown : ∀ g : Int, AV.Own (AV.one (.v (.int .i64 g))) := fun g => .v _
  refine seqE ?_
  refine seqE ?_
  refine lenM fun hN1 => ?_
  refine seqE ?_
  refine seqE ?_
  refine brD hg (fun hg h2 => ?_) (fun hg h2 => ?_)
  · refine seqE ?_
    exact leafE hown hg
  · refine seqE ?_
    refine seqE ?_
    refine loopLE hg [0] (fun x1 => [(1, .one (.v (.int .i64 x1.s))), (5, .one (.v (.int .i64 ((x1.i : Nat) : Int))))]) (fun x1 => []) [] ?_ (fun x1 => ?_)
    · exact ⟨rfl, ⟨rfl, rfl, rfl, trivial⟩, trivial, trivial⟩
    refine seqE ?_
    refine seqE ?_
    refine lenM fun hN3 => ?_
    refine tstL (fun hi1 => ?_) (fun hi1 => ?_)
    · have hb1 := (x1.bdy hi1).trans (laws_szAttrS_b1.eq_1 ..)
      have hw1 := wrap_succ hi1 (by first | assumption | omega)
      refine seqE ?_
      refine seqE ?_
      refine idxAt hi1 ?_
      refine .inl (⟨_, _, c_laws_szAttr (p0[x1.i]'hi1) x1.s, (FzAs.same _), ?_⟩)
      refine litE (m := 1) rfl ?_
      refine seqE ?_
      refine brD hb1 (fun hb1 h4 => ?_) (fun hb1 h4 => x1.goE hi1 hb1 [] ⟨rfl, ⟨rfl, (eqInt hw1), rfl, trivial⟩, trivial, trivial⟩)
      refine seqE ?_
      have hg := donE hg (x1.outD hi1 hb1)
      exact leafE hown hg
    have hg := finE hg (x1.fin hi1)
    refine seqE ?_
    exact leafE hown hg
theorem szd_laws_szAttrS : Szd (bdS Attr.bd) laws_szAttrS := szS_ok (b := laws_szAttrS_b1) szd_laws_szAttr (fun _ _ _ => rfl) (fun _ _ => rfl)
def laws_szSpan (p0 : Span) (p1 : Int) : Int :=
  (bif (decide ((laws_szAttrS p0.Attrs p1) < 0)) then (-1) else (laws_szAttrS p0.Attrs p1))
theorem c_laws_szSpan (p0 : Span) (p1 : Int) : FnOk prog 100 [.agg ((Span.cells false) p0), .one (.v (.int .i64 p1))] ⟨.one (.v (.int .i64 (laws_szSpan p0 p1))), [], [], false⟩ := by
  refine FnOk.intro (E := env) envOk wide func100 rfl (by kernel_rfl) rfl rfl ?_
  have hg := laws_szSpan.eq_1 p0 p1
  have hown : ∀ g : Int, AV.Own (AV.one (.v (.int .i64 g))) := fun g => .v _
  refine seqE ?_
  refine litE (m := 0) rfl ?_
  refine seqE ?_
  refine .inl (⟨_, _, c_laws_szAttrS p0.Attrs p1, (FzAs.same _), ?_⟩)
  refine litE (m := 2) rfl ?_
  refine seqE ?_
  refine seqE ?_
  refine brD hg (fun hg h1 => ?_) (fun hg h1 => ?_)
  · refine seqE ?_
    exact leafE hown hg
  · refine seqE ?_
    exact leafE hown hg
theorem szd_laws_szSpan : Szd Span.bd laws_szSpan := by
  intro x left hb h0 h1 h2
  unfold laws_szSpan at h2 ⊢
  unfold Span.bd at hb ⊢
  cases c0 : decide ((laws_szAttrS x.Attrs left) < 0) with
  | true => simp [c0] at h2
  | false =>
  have p0 : 0 ≤ (laws_szAttrS x.Attrs left) := by simpa using c0
  have z0 := szd_laws_szAttrS x.Attrs left hb h0 h1 p0
  have b0 := z0.1
  have u0 := z0.2
  have v0 : (laws_szAttrS x.Attrs left) ≤ 1048576 := by omega
  simp only [c0, cond_false] at h2 ⊢
  exact ⟨b0, by omega⟩
def laws_szDeed (p0 : Deed) (p1 : Int) : Int :=
  (bif (decide ((laws_szSpan p0.S p1) < 0)) then (-1) else (laws_szSpan p0.S p1))
theorem c_laws_szDeed (p0 : Deed) (p1 : Int) : FnOk prog 38 [.agg ((Deed.cells false) p0), .one (.v (.int .i64 p1))] ⟨.one (.v (.int .i64 (laws_szDeed p0 p1))), [], [], false⟩ := by
  refine FnOk.intro (E := env) envOk wide func38 rfl (by kernel_rfl) rfl rfl ?_
  have hg := laws_szDeed.eq_1 p0 p1
  have hown : ∀ g : Int, AV.Own (AV.one (.v (.int .i64 g))) := fun g => .v _
  refine seqE ?_
  refine litE (m := 0) rfl ?_
  refine seqE ?_
  refine .inl (⟨_, _, c_laws_szSpan p0.S p1, (FzAs.same _), ?_⟩)
  refine litE (m := 2) rfl ?_
  refine seqE ?_
  refine seqE ?_
  refine brD hg (fun hg h1 => ?_) (fun hg h1 => ?_)
  · refine seqE ?_
    exact leafE hown hg
  · refine seqE ?_
    exact leafE hown hg
theorem szd_laws_szDeed : Szd Deed.bd laws_szDeed := by
  intro x left hb h0 h1 h2
  unfold laws_szDeed at h2 ⊢
  unfold Deed.bd at hb ⊢
  cases c0 : decide ((laws_szSpan x.S left) < 0) with
  | true => simp [c0] at h2
  | false =>
  have p0 : 0 ≤ (laws_szSpan x.S left) := by simpa using c0
  have z0 := szd_laws_szSpan x.S left hb h0 h1 p0
  have b0 := z0.1
  have u0 := z0.2
  have v0 : (laws_szSpan x.S left) ≤ 1048576 := by omega
  simp only [c0, cond_false] at h2 ⊢
  exact ⟨b0, by omega⟩
def laws_szDeedS_b1 (i1 : Nat) (s1 : Int) (a1 : Deed) : Step (Int) Int :=
  (bif (decide ((laws_szDeed a1 s1) < 0)) then (.done (-1)) else (.next (laws_szDeed a1 s1)))
def laws_szDeedS (p0 : (List Deed)) (p1 : Int) : Int :=
  (bif (decide ((IntKind.i64.wrap (p1 - (((p0).length : Nat) : Int))) < 0)) then (-1) else (Fin.get (fun s1 => s1) (loopL laws_szDeedS_b1 0 (IntKind.i64.wrap (p1 - (((p0).length : Nat) : Int))) p0)))
theorem c_laws_szDeedS (p0 : (List Deed)) (p1 : Int) : FnOk prog 7 [.one (.s false 20 (List.map (Deed.cells false) p0)), .one (.v (.int .i64 p1))] ⟨.one (.v (.int .i64 (laws_szDeedS p0 p1))), [], [], false⟩ := by
  refine FnOk.intro (E := env) envOk wide func7 rfl (by kernel_rfl) rfl rfl ?_
  have hg := laws_szDeedS.eq_1 p0 p1
  have hown : ∀ g : Int, AV.Own (AV.one (.v (.int .i64 g))) := fun g => .v _
  refine seqE ?_
  refine seqE ?_
  refine lenM fun hN1 => ?_
  refine seqE ?_
  refine seqE ?_
  refine brD hg (fun hg h2 => ?_) (fun hg h2 => ?_)
  · refine seqE ?_
    exact leafE hown hg
  · refine seqE ?_
    refine seqE ?_
    refine loopLE hg [0] (fun x1 => [(1, .one (.v (.int .i64 x1.s))), (5, .one (.v (.int .i64 ((x1.i : Nat) : Int))))]) (fun x1 => []) [] ?_ (fun x1 => ?_)
    · exact ⟨rfl, ⟨rfl, rfl, rfl, trivial⟩, trivial, trivial⟩
    refine seqE ?_
    refine seqE ?_
    refine lenM fun hN3 => ?_
    refine tstL (fun hi1 => ?_) (fun hi1 => ?_)
    · have hb1 := (x1.bdy hi1).trans (laws_szDeedS_b1.eq_1 ..)
      have hw1 := wrap_succ hi1 (by first | assumption | omega)
      refine seqE ?_
      refine seqE ?_
      refine idxAt hi1 ?_
      refine .inl (⟨_, _, c_laws_szDeed (p0[x1.i]'hi1) x1.s, (FzAs.same _), ?_⟩)
      refine litE (m := 1) rfl ?_
      refine seqE ?_
      refine brD hb1 (fun hb1 h4 => ?_) (fun hb1 h4 => x1.goE hi1 hb1 [] ⟨rfl, ⟨rfl, (eqInt hw1), rfl, trivial⟩, trivial, trivial⟩)
      refine seqE ?_
      have hg := donE hg (x1.outD hi1 hb1)
      exact leafE hown hg
    have hg := finE hg (x1.fin hi1)
    refine seqE ?_
    exact leafE hown hg
theorem szd_laws_szDeedS : Szd (bdS Deed.bd) laws_szDeedS := szS_ok (b := laws_szDeedS_b1) szd_laws_szDeed (fun _ _ _ => rfl) (fun _ _ => rfl)
def laws_toAttr (p0 : Attr) : Attr :=
  p0
theorem c_laws_toAttr (p0 : Attr) : FnOk prog 163 [.agg (Attr.cells p0)] ⟨.agg (Attr.cells (laws_toAttr p0)), [], [], false⟩ := by
  refine FnOk.intro (E := env) envOk wide func163 rfl (by kernel_rfl) rfl rfl ?_
  have hg := laws_toAttr.eq_1 p0
  have hown : ∀ g : Attr, AV.Own (AV.agg (Attr.cells g)) := fun g => own_Attr _
  refine seqE ?_
  refine litE (m := 0) rfl ?_
  refine litE (m := 1) rfl ?_
  refine seqE ?_
  refine litE (m := 2) rfl ?_
  refine seqE ?_
  refine seqE ?_
  refine seqE ?_
  refine seqE ?_
  refine seqE ?_
  exact leafE hown hg
theorem id_laws_toAttr (x : Attr) : laws_toAttr x = x := by
  first | rfl | (simp only [laws_toAttr]; done) | (simp only [laws_toAttr]; rfl)
def laws_toAttrS_b1 (i1 : Nat) (s1 : (List Attr)) (a1 : Attr) : Step ((List Attr)) (List Attr) :=
  (.next (List.set s1 i1 (laws_toAttr a1)))
def laws_toAttrS (p0 : (List Attr)) : (List Attr) :=
  (Fin.get (fun s1 => s1) (loopL laws_toAttrS_b1 0 (List.replicate (p0).length (default : Attr)) p0))
theorem c_laws_toAttrS (p0 : (List Attr)) (hs : bdS Attr.bd 1048576 p0) : FnOk prog 142 [.one (.s false 4 (List.map Attr.cells p0))] ⟨.one (.s true 4 (List.map Attr.cells (laws_toAttrS p0))), [], [], false⟩ := by
  refine FnOk.intro (E := env) envOk wide func142 rfl (by kernel_rfl) rfl rfl ?_
  have hs1 := hs.1
  have hg := laws_toAttrS.eq_1 p0
  have hown : ∀ g : (List Attr), AV.Own (AV.one (.s true 4 (List.map Attr.cells g))) := fun g => ownSl own_Attr _
  refine seqE ?_
  refine seqE ?_
  refine lenM fun hN1 => ?_
  refine And.intro (by exact ⟨rfl, by omega, by show ((48 : Nat) : Int) * _ ≤ _; omega, by omega⟩) (rowsE (Y := List.map Attr.cells (List.replicate (p0).length (default : Attr))) (by rw [List.map_replicate]; rfl) ?_)
  refine litE (m := 0) rfl ?_
  refine seqE ?_
  refine seqE ?_
  refine loopLI (fun _ s => (s).length = (p0).length) hg (by simp) [0, 3] (fun x1 => [(4, .one (.v (.int .i64 ((x1.i : Nat) : Int))))]) (fun x1 => [.new ⟨4, false, List.map Attr.cells x1.s, 0⟩]) [some 0] ?_ (fun x1 => ?_)
  · exact ⟨rfl, ⟨rfl, rfl, ⟨rfl, rfl, rfl, rfl, by (first | rfl | omega | (dsimp only; omega) | (simp; done) | (simp; omega) | (simp [LstSt.init, LstSt.step, LstInv.init, CntSt.init, CntSt.step, CntInv.init, WhlSt.init, WhlSt.step]; done) | (simp [LstSt.init, LstSt.step, LstInv.init, CntSt.init, CntSt.step, CntInv.init, WhlSt.init, WhlSt.step]; omega))⟩, trivial⟩, ⟨⟨rfl, rfl, rfl⟩, trivial⟩, trivial⟩
  have hI1 : (x1.s).length = (p0).length := by simpa using x1.hI
  refine seqE ?_
  refine seqE ?_
  refine lenM fun hN2 => ?_
  refine tstL (fun hi1 => ?_) (fun hi1 => ?_)
  · have hb1 := (x1.bdy hi1).trans (laws_toAttrS_b1.eq_1 ..)
    have hw1 := wrap_succ hi1 (by first | assumption | omega)
    refine seqE ?_
    refine idxAt hi1 ?_
    refine .inl (⟨_, _, c_laws_toAttr (p0[x1.i]'hi1), (FzAs.same _), ?_⟩)
    refine litE (m := 2) rfl ?_
    refine andE (by (first | omega | (simp (disch := omega) only [wrap_small, mid_eq, List.length_map]; omega) | (simp; done) | (simp; omega) | (simp at *; omega) | (simp at *; done) | (simp_all; done) | (simp_all; omega))) ?_
    refine rowsE (Y := List.map Attr.cells (List.set x1.s x1.i (laws_toAttr (p0[x1.i]'hi1)))) (by exact setMapE (by simp) (fun a ha => by first | rfl | (simp only [ha, Option.getD_some]; rfl) | (obtain ⟨_, rfl⟩ := List.getElem?_eq_some_iff.1 ha; rfl) | (simp only [Pol.cells_eq]; rfl) | (simp only [ha, Option.getD_some, Pol.cells_eq]; rfl))) ?_
    exact x1.goE hi1 hb1 (by simpa using x1.hI) [some 0] ⟨rfl, ⟨(eqInt hw1), rfl, ⟨rfl, rfl, rfl, rfl, by (first | rfl | omega | (dsimp only; omega) | (simp; done) | (simp; omega) | (simp [LstSt.init, LstSt.step, LstInv.init, CntSt.init, CntSt.step, CntInv.init, WhlSt.init, WhlSt.step]; done) | (simp [LstSt.init, LstSt.step, LstInv.init, CntSt.init, CntSt.step, CntInv.init, WhlSt.init, WhlSt.step]; omega))⟩, trivial⟩, ⟨⟨rfl, rfl, rfl⟩, trivial⟩, trivial⟩
  have hg := finE hg (x1.fin hi1)
  refine seqE ?_
  exact leafE hown hg
theorem id_laws_toAttrS (x : (List Attr)) : laws_toAttrS x = x := setS_ok (b := laws_toAttrS_b1) id_laws_toAttr (fun _ _ _ => rfl) (fun _ => rfl) x
def laws_toSpan (p0 : Span) : Span :=
  (Span.mk p0.Trace p0.Id p0.Start p0.End p0.Err (laws_toAttrS p0.Attrs))
theorem c_laws_toSpan (p0 : Span) (hs : Span.bd 1048576 p0) : FnOk prog 101 [.agg ((Span.cells false) p0)] ⟨.agg ((Span.cells true) (laws_toSpan p0)), [], [], false⟩ := by
  refine FnOk.intro (E := env) envOk wide func101 rfl (by kernel_rfl) rfl rfl ?_
  unfold Span.bd at hs
  have hg := laws_toSpan.eq_1 p0
  have hown : ∀ g : Span, AV.Own (AV.agg ((Span.cells true) g)) := fun g => own_Span _
  refine seqE ?_
  refine litE (m := 0) rfl ?_
  refine litE (m := 1) rfl ?_
  refine seqE ?_
  refine litE (m := 2) rfl ?_
  refine seqE ?_
  refine seqE ?_
  refine seqE ?_
  refine seqE ?_
  refine seqE ?_
  refine seqE ?_
  refine .inl (⟨_, _, c_laws_toAttrS p0.Attrs (by exact hs), (FzAs.same _), ?_⟩)
  refine litE (m := 4) rfl ?_
  refine seqE ?_
  exact leafE hown hg
theorem id_laws_toSpan (x : Span) : laws_toSpan x = x := by
  first | rfl | (simp only [laws_toSpan, id_laws_toAttrS]; done) | (simp only [laws_toSpan, id_laws_toAttrS]; rfl)
def laws_toDeed (p0 : Deed) : Deed :=
  (Deed.mk p0.Op p0.Task (laws_toSpan p0.S) p0.Trace p0.Stamp p0.Code p0.Keep p0.Void p0.Took p0.N p0.Forgot p0.Now p0.Inv p0.Lin p0.Res)
theorem c_laws_toDeed (p0 : Deed) (hs : Deed.bd 1048576 p0) : FnOk prog 40 [.agg ((Deed.cells false) p0)] ⟨.agg ((Deed.cells true) (laws_toDeed p0)), [], [], false⟩ := by
  refine FnOk.intro (E := env) envOk wide func40 rfl (by kernel_rfl) rfl rfl ?_
  unfold Deed.bd at hs
  have hg := laws_toDeed.eq_1 p0
  have hown : ∀ g : Deed, AV.Own (AV.agg ((Deed.cells true) g)) := fun g => own_Deed _
  refine seqE ?_
  refine litE (m := 0) rfl ?_
  refine litE (m := 1) rfl ?_
  refine seqE ?_
  refine litE (m := 2) rfl ?_
  refine seqE ?_
  refine seqE ?_
  refine seqE ?_
  refine .inl (⟨_, _, c_laws_toSpan p0.S (by exact hs), (FzAs.same _), ?_⟩)
  refine litE (m := 4) rfl ?_
  refine seqE ?_
  refine seqE ?_
  refine seqE ?_
  refine seqE ?_
  refine seqE ?_
  refine seqE ?_
  refine seqE ?_
  refine seqE ?_
  refine seqE ?_
  refine seqE ?_
  refine seqE ?_
  refine seqE ?_
  refine seqE ?_
  exact leafE hown hg
theorem id_laws_toDeed (x : Deed) : laws_toDeed x = x := by
  first | rfl | (simp only [laws_toDeed, id_laws_toSpan]; done) | (simp only [laws_toDeed, id_laws_toSpan]; rfl)
def laws_toDeedS_b1 (i1 : Nat) (s1 : (List Deed)) (a1 : Deed) : Step ((List Deed)) (List Deed) :=
  (.next (List.set s1 i1 (laws_toDeed a1)))
def laws_toDeedS (p0 : (List Deed)) : (List Deed) :=
  (Fin.get (fun s1 => s1) (loopL laws_toDeedS_b1 0 (List.replicate (p0).length (default : Deed)) p0))
theorem c_laws_toDeedS (p0 : (List Deed)) (hs : bdS Deed.bd 1048576 p0) : FnOk prog 9 [.one (.s false 20 (List.map (Deed.cells false) p0))] ⟨.one (.s true 20 (List.map (Deed.cells true) (laws_toDeedS p0))), [], [], false⟩ := by
  refine FnOk.intro (E := env) envOk wide func9 rfl (by kernel_rfl) rfl rfl ?_
  have hs1 := hs.1
  have hg := laws_toDeedS.eq_1 p0
  have hown : ∀ g : (List Deed), AV.Own (AV.one (.s true 20 (List.map (Deed.cells true) g))) := fun g => ownSl own_Deed _
  refine seqE ?_
  refine seqE ?_
  refine lenM fun hN1 => ?_
  refine And.intro (by exact ⟨rfl, by omega, by show ((168 : Nat) : Int) * _ ≤ _; omega, by omega⟩) (rowsE (Y := List.map (Deed.cells true) (List.replicate (p0).length (default : Deed))) (by rw [List.map_replicate]; rfl) ?_)
  refine litE (m := 0) rfl ?_
  refine seqE ?_
  refine seqE ?_
  refine loopLI (fun _ s => (s).length = (p0).length) hg (by simp) [0, 3] (fun x1 => [(4, .one (.v (.int .i64 ((x1.i : Nat) : Int))))]) (fun x1 => [.new ⟨20, false, List.map (Deed.cells true) x1.s, 0⟩]) [some 0] ?_ (fun x1 => ?_)
  · exact ⟨rfl, ⟨rfl, rfl, ⟨rfl, rfl, rfl, rfl, by (first | rfl | omega | (dsimp only; omega) | (simp; done) | (simp; omega) | (simp [LstSt.init, LstSt.step, LstInv.init, CntSt.init, CntSt.step, CntInv.init, WhlSt.init, WhlSt.step]; done) | (simp [LstSt.init, LstSt.step, LstInv.init, CntSt.init, CntSt.step, CntInv.init, WhlSt.init, WhlSt.step]; omega))⟩, trivial⟩, ⟨⟨rfl, rfl, rfl⟩, trivial⟩, trivial⟩
  have hI1 : (x1.s).length = (p0).length := by simpa using x1.hI
  refine seqE ?_
  refine seqE ?_
  refine lenM fun hN2 => ?_
  refine tstL (fun hi1 => ?_) (fun hi1 => ?_)
  · have hb1 := (x1.bdy hi1).trans (laws_toDeedS_b1.eq_1 ..)
    have hw1 := wrap_succ hi1 (by first | assumption | omega)
    refine seqE ?_
    refine idxAt hi1 ?_
    refine .inl (⟨_, _, c_laws_toDeed (p0[x1.i]'hi1) (by exact hs.get hi1), (FzAs.same _), ?_⟩)
    refine litE (m := 2) rfl ?_
    refine andE (by (first | omega | (simp (disch := omega) only [wrap_small, mid_eq, List.length_map]; omega) | (simp; done) | (simp; omega) | (simp at *; omega) | (simp at *; done) | (simp_all; done) | (simp_all; omega))) ?_
    refine rowsE (Y := List.map (Deed.cells true) (List.set x1.s x1.i (laws_toDeed (p0[x1.i]'hi1)))) (by exact setMapE (by simp) (fun a ha => by first | rfl | (simp only [ha, Option.getD_some]; rfl) | (obtain ⟨_, rfl⟩ := List.getElem?_eq_some_iff.1 ha; rfl) | (simp only [Pol.cells_eq]; rfl) | (simp only [ha, Option.getD_some, Pol.cells_eq]; rfl))) ?_
    exact x1.goE hi1 hb1 (by simpa using x1.hI) [some 0] ⟨rfl, ⟨(eqInt hw1), rfl, ⟨rfl, rfl, rfl, rfl, by (first | rfl | omega | (dsimp only; omega) | (simp; done) | (simp; omega) | (simp [LstSt.init, LstSt.step, LstInv.init, CntSt.init, CntSt.step, CntInv.init, WhlSt.init, WhlSt.step]; done) | (simp [LstSt.init, LstSt.step, LstInv.init, CntSt.init, CntSt.step, CntInv.init, WhlSt.init, WhlSt.step]; omega))⟩, trivial⟩, ⟨⟨rfl, rfl, rfl⟩, trivial⟩, trivial⟩
  have hg := finE hg (x1.fin hi1)
  refine seqE ?_
  exact leafE hown hg
theorem id_laws_toDeedS (x : (List Deed)) : laws_toDeedS x = x := setS_ok (b := laws_toDeedS_b1) id_laws_toDeed (fun _ _ _ => rfl) (fun _ => rfl) x
def spec_l11Has_b1 (p1 : Int) (i1 : Nat) (s1 : Unit) (a1 : Int) : Step (Unit) Bool :=
  (bif (a1 == p1) then (.done true) else (.next ()))
def spec_l11Has (p0 : (List Int)) (p1 : Int) : Bool :=
  (Fin.get (fun s1 => false) (loopL (spec_l11Has_b1 p1) 0 () p0))
theorem c_spec_l11Has (p0 : (List Int)) (p1 : Int) : FnOk prog 39 [.one (.s false 1 (List.map cInt p0)), .one (.v (.int .i64 p1))] ⟨.one (.v (.bool (spec_l11Has p0 p1))), [], [], false⟩ := by
  refine FnOk.intro (E := env) envOk wide func39 rfl (by kernel_rfl) rfl rfl ?_
  have hg := spec_l11Has.eq_1 p0 p1
  have hown : ∀ g : Bool, AV.Own (AV.one (.v (.bool g))) := fun g => .v _
  refine seqE ?_
  refine seqE ?_
  refine seqE ?_
  refine loopLE hg [0, 1] (fun x1 => [(5, .one (.v (.int .i64 ((x1.i : Nat) : Int))))]) (fun x1 => []) [] ?_ (fun x1 => ?_)
  · exact ⟨rfl, ⟨rfl, rfl, rfl, trivial⟩, trivial, trivial⟩
  refine seqE ?_
  refine seqE ?_
  refine lenM fun hN1 => ?_
  refine tstL (fun hi1 => ?_) (fun hi1 => ?_)
  · have hb1 := (x1.bdy hi1).trans (spec_l11Has_b1.eq_1 ..)
    have hw1 := wrap_succ hi1 (by first | assumption | omega)
    refine seqE ?_
    refine seqE ?_
    refine idxAt hi1 ?_
    refine brQ hb1 (fun hb1 h2 => ?_) (fun hb1 h2 => x1.goE hi1 hb1 [] ⟨rfl, ⟨(eqInt hw1), rfl, rfl, trivial⟩, trivial, trivial⟩)
    refine seqE ?_
    have hg := donE hg (x1.outD hi1 hb1)
    exact leafE hown hg
  have hg := finE hg (x1.fin hi1)
  refine seqE ?_
  exact leafE hown hg
def spec_StampsOf_b3 (s1 : (List Int)) (a1 : Deed) (s3 : Int) : Step (Int) (Step (Int) (Step ((List Int)) (List Int))) :=
  (bif (decide (s3 > 0)) then (bif (decide ((s1[((IntKind.i64.wrap (s3 - 1))).toNat]?.getD default) > a1.Stamp)) then (.next (IntKind.i64.wrap (s3 - 1))) else (.stop s3)) else (.stop s3))
def spec_StampsOf_j2 (s1 : (List Int)) (a1 : Deed) : Step (Int) (Step ((List Int)) (List Int)) :=
  (Fin.get (fun s3 => (.next s3)) (loopW (spec_StampsOf_b3 s1 a1) (Int.toNat (((s1).length : Nat) : Int)) (((s1).length : Nat) : Int)))
def spec_StampsOf_b1 (i1 : Nat) (s1 : (List Int)) (a1 : Deed) : Step ((List Int)) (List Int) :=
  (bif (a1.Op != 1) then (.next s1) else (bif (a1.Lin == (-1)) then (.next s1) else (bif (a1.Code != 1) then (.next s1) else (bif (decide (a1.Stamp < 1)) then (.next s1) else (bif (spec_l11Has s1 a1.Stamp) then (.next s1) else (Step.get (fun s2 => (.next (((List.take ((s2).toNat - 0) (List.drop 0 s1)) ++ [a1.Stamp]) ++ (List.take ((s1).length - (s2).toNat) (List.drop (s2).toNat s1))))) (spec_StampsOf_j2 s1 a1)))))))
def spec_StampsOf (p0 : (List Deed)) : (List Int) :=
  (Fin.get (fun s1 => s1) (loopL spec_StampsOf_b1 0 ([] : List Int) p0))
theorem sst_bd {s1 : List Int} {a1 : Deed} {v : Int} (hl : s1.length ≤ 4503599627370496) (h : spec_StampsOf_j2 s1 a1 = .next v) : 0 ≤ v ∧ v ≤ ((s1.length : Nat) : Int) := by
  have key : ∀ v, spec_StampsOf_j2 s1 a1 = .next v → 0 ≤ v ∧ v ≤ ((s1.length : Nat) : Int) := by
    unfold spec_StampsOf_j2
    refine len_fin (P := fun k : Int => 0 ≤ k ∧ k ≤ ((s1.length : Nat) : Int)) (Q := fun z : Step Int (Step (List Int) (List Int)) => ∀ v, z = .next v → 0 ≤ v ∧ v ≤ ((s1.length : Nat) : Int)) (loopW_ind (P := fun k : Int => 0 ≤ k ∧ k ≤ ((s1.length : Nat) : Int)) (fun s hs => ?_) _ _ ⟨by omega, by omega⟩) (fun v hv w hw => by cases hw; exact hv)
    unfold spec_StampsOf_b3
    by_cases hp : s > 0
    · have hd : decide (s > 0) = true := by simpa using hp
      rw [hd, cond_true, wrap_small (n := s - 1) (by omega) (by omega)]
      exact bif_step (nx_step (by omega)) (st_step hs)
    · have hd : decide (s > 0) = false := by simpa using hp
      rw [hd, cond_false]
      exact st_step hs
  exact key v h
theorem c_spec_StampsOf (p0 : (List Deed)) (hs : bdS Deed.bd 1048576 p0) : FnOk prog 8 [.one (.s false 20 (List.map (Deed.cells false) p0))] ⟨.one (.s true 1 (List.map cInt (spec_StampsOf p0))), [], [], false⟩ := by
  refine FnOk.intro (E := env) envOk wide func8 rfl (by kernel_rfl) rfl rfl ?_
  have hg := spec_StampsOf.eq_1 p0
  have hown : ∀ g : (List Int), AV.Own (AV.one (.s true 1 (List.map cInt g))) := fun g => ownSl own_cInt _
  refine seqE ?_
  refine seqE ?_
  refine litE (m := 0) rfl ?_
  refine seqE ?_
  refine seqE ?_
  refine loopLI (fun (i : Nat) (s : List Int) => s.length ≤ i) hg (Nat.le_refl _) [0] (fun x1 => [(3, .one (.n 0 [] 1 0 (x1.s).length)), (4, .one (.v (.int .i64 ((x1.i : Nat) : Int))))]) (fun x1 => [.new ⟨1, false, List.map cInt x1.s, 0⟩]) [some 0] ?_ (fun x1 => ?_)
  · exact ⟨rfl, ⟨⟨rfl, rfl, rfl, rfl, by (first | rfl | omega | (dsimp only; omega) | (simp; done) | (simp; omega) | (simp [LstSt.init, LstSt.step, LstInv.init, CntSt.init, CntSt.step, CntInv.init, WhlSt.init, WhlSt.step]; done) | (simp [LstSt.init, LstSt.step, LstInv.init, CntSt.init, CntSt.step, CntInv.init, WhlSt.init, WhlSt.step]; omega))⟩, rfl, rfl, trivial⟩, ⟨⟨rfl, rfl, rfl⟩, trivial⟩, trivial⟩
  have hI1 := x1.hI
  try dsimp only at hI1
  refine seqE ?_
  refine seqE ?_
  refine lenM fun hN1 => ?_
  refine tstL (fun hi1 => ?_) (fun hi1 => ?_)
  · have hb1 := (x1.bdy hi1).trans (spec_StampsOf_b1.eq_1 ..)
    have hw1 := wrap_succ hi1 (by first | assumption | omega)
    refine seqE ?_
    refine seqE ?_
    refine idxAt hi1 ?_
    refine litE (m := 1) rfl ?_
    refine seqE ?_
    refine seqE ?_
    refine brWF hb1 (fun hb1 h2 => ?_) (fun hb1 h2 => x1.goE hi1 hb1 (by have q1 := hI1; (try have q2 := q3); (try simp only [List.length_map, List.length_append, List.length_cons, List.length_nil, List.length_take, List.length_drop]); omega) [some 0] ⟨rfl, ⟨⟨rfl, rfl, rfl, rfl, by (first | rfl | omega | (dsimp only; omega) | (simp; done) | (simp; omega) | (simp [LstSt.init, LstSt.step, LstInv.init, CntSt.init, CntSt.step, CntInv.init, WhlSt.init, WhlSt.step]; done) | (simp [LstSt.init, LstSt.step, LstInv.init, CntSt.init, CntSt.step, CntInv.init, WhlSt.init, WhlSt.step]; omega))⟩, (eqInt hw1), rfl, trivial⟩, ⟨⟨rfl, rfl, rfl⟩, trivial⟩, trivial⟩)
    refine brQF hb1 (fun hb1 h3 => ?_) (fun hb1 h3 => x1.goE hi1 hb1 (by have q1 := hI1; (try have q2 := q3); (try simp only [List.length_map, List.length_append, List.length_cons, List.length_nil, List.length_take, List.length_drop]); omega) [some 0] ⟨rfl, ⟨⟨rfl, rfl, rfl, rfl, by (first | rfl | omega | (dsimp only; omega) | (simp; done) | (simp; omega) | (simp [LstSt.init, LstSt.step, LstInv.init, CntSt.init, CntSt.step, CntInv.init, WhlSt.init, WhlSt.step]; done) | (simp [LstSt.init, LstSt.step, LstInv.init, CntSt.init, CntSt.step, CntInv.init, WhlSt.init, WhlSt.step]; omega))⟩, (eqInt hw1), rfl, trivial⟩, ⟨⟨rfl, rfl, rfl⟩, trivial⟩, trivial⟩)
    refine brWF hb1 (fun hb1 h4 => ?_) (fun hb1 h4 => x1.goE hi1 hb1 (by have q1 := hI1; (try have q2 := q3); (try simp only [List.length_map, List.length_append, List.length_cons, List.length_nil, List.length_take, List.length_drop]); omega) [some 0] ⟨rfl, ⟨⟨rfl, rfl, rfl, rfl, by (first | rfl | omega | (dsimp only; omega) | (simp; done) | (simp; omega) | (simp [LstSt.init, LstSt.step, LstInv.init, CntSt.init, CntSt.step, CntInv.init, WhlSt.init, WhlSt.step]; done) | (simp [LstSt.init, LstSt.step, LstInv.init, CntSt.init, CntSt.step, CntInv.init, WhlSt.init, WhlSt.step]; omega))⟩, (eqInt hw1), rfl, trivial⟩, ⟨⟨rfl, rfl, rfl⟩, trivial⟩, trivial⟩)
    refine brDF hb1 (fun hb1 h5 => ?_) (fun hb1 h5 => x1.goE hi1 hb1 (by have q1 := hI1; (try have q2 := q3); (try simp only [List.length_map, List.length_append, List.length_cons, List.length_nil, List.length_take, List.length_drop]); omega) [some 0] ⟨rfl, ⟨⟨rfl, rfl, rfl, rfl, by (first | rfl | omega | (dsimp only; omega) | (simp; done) | (simp; omega) | (simp [LstSt.init, LstSt.step, LstInv.init, CntSt.init, CntSt.step, CntInv.init, WhlSt.init, WhlSt.step]; done) | (simp [LstSt.init, LstSt.step, LstInv.init, CntSt.init, CntSt.step, CntInv.init, WhlSt.init, WhlSt.step]; omega))⟩, (eqInt hw1), rfl, trivial⟩, ⟨⟨rfl, rfl, rfl⟩, trivial⟩, trivial⟩)
    refine .inl (⟨_, _, c_spec_l11Has x1.s (p0[x1.i]'hi1).Stamp, (FzAs.same _), ?_⟩)
    refine litE (m := 3) rfl ?_
    refine brE hb1 (fun hb1 h6 => x1.goE hi1 hb1 (by have q1 := hI1; (try have q2 := q3); (try simp only [List.length_map, List.length_append, List.length_cons, List.length_nil, List.length_take, List.length_drop]); omega) [some 0] ⟨rfl, ⟨⟨rfl, rfl, rfl, rfl, by (first | rfl | omega | (dsimp only; omega) | (simp; done) | (simp; omega) | (simp [LstSt.init, LstSt.step, LstInv.init, CntSt.init, CntSt.step, CntInv.init, WhlSt.init, WhlSt.step]; done) | (simp [LstSt.init, LstSt.step, LstInv.init, CntSt.init, CntSt.step, CntInv.init, WhlSt.init, WhlSt.step]; omega))⟩, (eqInt hw1), rfl, trivial⟩, ⟨⟨rfl, rfl, rfl⟩, trivial⟩, trivial⟩) (fun hb1 h6 => ?_)
    refine seqE ?_
    refine lenE (k := (x1.s).length) (by simp) (fun hN7 => ?_)
    refine joinE hb1 [0, 3, 4, 5, 22, 23, 24, 27, 28, 29, 32, 33, 34, 37, 38, 39, 40] (fun x2 => [(6, .one (.v (.int .i64 x2.s)))]) (fun x2 => [.keep 0, .keep 1, .dead]) (fun hb2 => ?_) (fun x2 hb1 => ?_)
    · have hb2 := hb2.trans (spec_StampsOf_j2.eq_1 ..)
      refine loopWE (m := Int.toNat) (s0 := (((x1.s).length : Nat) : Int)) (fun k : Int => 0 ≤ k ∧ k ≤ ((x1.s.length : Nat) : Int)) hb2 (by exact ⟨by omega, by omega⟩) [0, 3, 4, 5, 22, 23, 24, 27, 28, 29, 32, 33, 34, 37, 38, 39, 40] (fun x3 => [(6, .one (.v (.int .i64 x3.s)))]) (fun x3 => [.keep 0, .keep 1, .dead]) [some 0, some 1, none] ?_ (fun x3 => ?_)
      · exact ⟨rfl, ⟨rfl, rfl, ⟨rfl, rfl, rfl, rfl, by (first | rfl | omega | (dsimp only; omega) | (simp; done) | (simp; omega) | (simp [LstSt.init, LstSt.step, LstInv.init, CntSt.init, CntSt.step, CntInv.init, WhlSt.init, WhlSt.step]; done) | (simp [LstSt.init, LstSt.step, LstInv.init, CntSt.init, CntSt.step, CntInv.init, WhlSt.init, WhlSt.step]; omega))⟩, rfl, ⟨rfl, rfl, rfl, rfl⟩, ⟨rfl, rfl, rfl, rfl⟩, rfl, rfl, ⟨rfl, rfl, rfl, rfl⟩, rfl, rfl, ⟨rfl, rfl, rfl, rfl⟩, rfl, rfl, ⟨rfl, rfl, rfl, rfl, by (first | rfl | omega | (dsimp only; omega) | (simp; done) | (simp; omega) | (simp [LstSt.init, LstSt.step, LstInv.init, CntSt.init, CntSt.step, CntInv.init, WhlSt.init, WhlSt.step]; done) | (simp [LstSt.init, LstSt.step, LstInv.init, CntSt.init, CntSt.step, CntInv.init, WhlSt.init, WhlSt.step]; omega))⟩, ⟨rfl, rfl, rfl, rfl⟩, rfl, rfl, trivial⟩, ⟨⟨rfl, rfl, rfl⟩, ⟨rfl, rfl, ⟨rfl, rfl, rfl, rfl, rfl, rfl, rfl, rfl, rfl, rfl, rfl, rfl, rfl, rfl, rfl, rfl, rfl, rfl, rfl, rfl, trivial⟩⟩, trivial⟩, trivial⟩
      have hI3 := x3.hI
      try dsimp only at hI3
      have hb3 := x3.bdy.trans (spec_StampsOf_b3.eq_1 ..)
      refine seqE ?_
      refine seqE ?_
      refine .inl ⟨by kernel_rfl, ?_⟩
      refine brD hb3 (fun hb3 h8 => ?_) (fun hb3 h8 => ?_)
      · refine andE (by have f1 := hs.1; have f2 := hI1; have f3 := hi1; (first | omega | (dsimp only <;> omega) | (simp (disch := omega) only [wrap_small, mid_eq, mid_eq1, mid_eq2, mid_eq3, List.length_map, List.length_set] <;> omega) | (simp (disch := omega) only [wrap_small, mid_eq, mid_eq1, mid_eq2, mid_eq3, List.length_map, List.length_set] at * <;> omega))) ?_
        refine rowGet (i := ((IntKind.i64.wrap (x3.s - 1))).toNat) (l := x1.s) (by first | rfl | exact Nat.zero_add _ | simp) (fun hq9 => ?_)
        refine brD hb3 (fun hb3 h10 => x3.goE hb3 (show (fun k : Int => 0 ≤ k ∧ k ≤ ((x1.s.length : Nat) : Int)) (IntKind.i64.wrap (x3.s - 1)) ∧ Int.toNat (IntKind.i64.wrap (x3.s - 1)) < Int.toNat x3.s by have f1 := hs.1; have f2 := hI1; have f3 := hi1; exact ⟨⟨by (first | omega | (dsimp only <;> omega) | (simp (disch := omega) only [wrap_small, mid_eq, mid_eq1, mid_eq2, mid_eq3, List.length_map, List.length_set] <;> omega) | (simp (disch := omega) only [wrap_small, mid_eq, mid_eq1, mid_eq2, mid_eq3, List.length_map, List.length_set] at * <;> omega)), by (first | omega | (dsimp only <;> omega) | (simp (disch := omega) only [wrap_small, mid_eq, mid_eq1, mid_eq2, mid_eq3, List.length_map, List.length_set] <;> omega) | (simp (disch := omega) only [wrap_small, mid_eq, mid_eq1, mid_eq2, mid_eq3, List.length_map, List.length_set] at * <;> omega))⟩, by (first | omega | (dsimp only <;> omega) | (simp (disch := omega) only [wrap_small, mid_eq, mid_eq1, mid_eq2, mid_eq3, List.length_map, List.length_set] <;> omega) | (simp (disch := omega) only [wrap_small, mid_eq, mid_eq1, mid_eq2, mid_eq3, List.length_map, List.length_set] at * <;> omega))⟩) [some 0, some 1, none] ⟨rfl, ⟨rfl, rfl, ⟨rfl, rfl, rfl, rfl, by (first | rfl | omega | (dsimp only; omega) | (simp; done) | (simp; omega) | (simp [LstSt.init, LstSt.step, LstInv.init, CntSt.init, CntSt.step, CntInv.init, WhlSt.init, WhlSt.step]; done) | (simp [LstSt.init, LstSt.step, LstInv.init, CntSt.init, CntSt.step, CntInv.init, WhlSt.init, WhlSt.step]; omega))⟩, rfl, ⟨rfl, rfl, rfl, rfl⟩, ⟨rfl, rfl, rfl, rfl⟩, rfl, rfl, ⟨rfl, rfl, rfl, rfl⟩, rfl, rfl, ⟨rfl, rfl, rfl, rfl⟩, rfl, rfl, ⟨rfl, rfl, rfl, rfl, by (first | rfl | omega | (dsimp only; omega) | (simp; done) | (simp; omega) | (simp [LstSt.init, LstSt.step, LstInv.init, CntSt.init, CntSt.step, CntInv.init, WhlSt.init, WhlSt.step]; done) | (simp [LstSt.init, LstSt.step, LstInv.init, CntSt.init, CntSt.step, CntInv.init, WhlSt.init, WhlSt.step]; omega))⟩, ⟨rfl, rfl, rfl, rfl⟩, rfl, rfl, trivial⟩, ⟨⟨rfl, rfl, rfl⟩, ⟨rfl, rfl, ⟨rfl, rfl, rfl, rfl, rfl, rfl, rfl, rfl, rfl, rfl, rfl, rfl, rfl, rfl, rfl, rfl, rfl, rfl, rfl, rfl, trivial⟩⟩, trivial⟩, trivial⟩) (fun hb3 h10 => ?_)
        have hb2 := finE hb2 (x3.outS hb3)
        exact .inl ⟨⟨_, hb2⟩, [some 0, some 1, none], ⟨rfl, ⟨rfl, rfl, ⟨rfl, rfl, rfl, rfl, by (first | rfl | omega | (dsimp only; omega) | (simp; done) | (simp; omega) | (simp [LstSt.init, LstSt.step, LstInv.init, CntSt.init, CntSt.step, CntInv.init, WhlSt.init, WhlSt.step]; done) | (simp [LstSt.init, LstSt.step, LstInv.init, CntSt.init, CntSt.step, CntInv.init, WhlSt.init, WhlSt.step]; omega))⟩, rfl, ⟨rfl, rfl, rfl, rfl⟩, ⟨rfl, rfl, rfl, rfl⟩, rfl, rfl, ⟨rfl, rfl, rfl, rfl⟩, rfl, rfl, ⟨rfl, rfl, rfl, rfl⟩, rfl, rfl, ⟨rfl, rfl, rfl, rfl, by (first | rfl | omega | (dsimp only; omega) | (simp; done) | (simp; omega) | (simp [LstSt.init, LstSt.step, LstInv.init, CntSt.init, CntSt.step, CntInv.init, WhlSt.init, WhlSt.step]; done) | (simp [LstSt.init, LstSt.step, LstInv.init, CntSt.init, CntSt.step, CntInv.init, WhlSt.init, WhlSt.step]; omega))⟩, ⟨rfl, rfl, rfl, rfl⟩, rfl, rfl, trivial⟩, ⟨⟨rfl, rfl, rfl⟩, ⟨rfl, rfl, ⟨rfl, rfl, rfl, rfl, rfl, rfl, rfl, rfl, rfl, rfl, rfl, rfl, rfl, rfl, rfl, rfl, rfl, rfl, rfl, rfl, trivial⟩⟩, trivial⟩, trivial⟩⟩
      · have hb2 := finE hb2 (x3.outS hb3)
        exact .inl ⟨⟨_, hb2⟩, [some 0, some 1, none], ⟨rfl, ⟨rfl, rfl, ⟨rfl, rfl, rfl, rfl, by (first | rfl | omega | (dsimp only; omega) | (simp; done) | (simp; omega) | (simp [LstSt.init, LstSt.step, LstInv.init, CntSt.init, CntSt.step, CntInv.init, WhlSt.init, WhlSt.step]; done) | (simp [LstSt.init, LstSt.step, LstInv.init, CntSt.init, CntSt.step, CntInv.init, WhlSt.init, WhlSt.step]; omega))⟩, rfl, ⟨rfl, rfl, rfl, rfl⟩, ⟨rfl, rfl, rfl, rfl⟩, rfl, rfl, ⟨rfl, rfl, rfl, rfl⟩, rfl, rfl, ⟨rfl, rfl, rfl, rfl⟩, rfl, rfl, ⟨rfl, rfl, rfl, rfl, by (first | rfl | omega | (dsimp only; omega) | (simp; done) | (simp; omega) | (simp [LstSt.init, LstSt.step, LstInv.init, CntSt.init, CntSt.step, CntInv.init, WhlSt.init, WhlSt.step]; done) | (simp [LstSt.init, LstSt.step, LstInv.init, CntSt.init, CntSt.step, CntInv.init, WhlSt.init, WhlSt.step]; omega))⟩, ⟨rfl, rfl, rfl, rfl⟩, rfl, rfl, trivial⟩, ⟨⟨rfl, rfl, rfl⟩, ⟨rfl, rfl, ⟨rfl, rfl, rfl, rfl, rfl, rfl, rfl, rfl, rfl, rfl, rfl, rfl, rfl, rfl, rfl, rfl, rfl, rfl, rfl, rfl, trivial⟩⟩, trivial⟩, trivial⟩⟩
    have q3 := sst_bd (by have f1 := hs.1; have f2 := hI1; have f3 := hi1; omega) x2.e
    refine .inr (.inr (.inr (.inl ⟨(.q 1 (.q 2 (.q 3 (.q 5 (.q 9 (.q 10 (.q 11 (.b 0 (.b 4 (.o 6 (.o 7 (.o 8 (.o 12 (.o 13 .leaf))))) 6 (.b 4 (.o 7 (.o 8 (.o 12 (.o 13 .leaf)))) 7 (.o 4 (.o 8 (.o 12 (.o 13 .leaf)))))) 6 (.b 0 (.b 4 (.o 7 (.o 8 (.o 12 (.o 13 .leaf)))) 7 (.o 4 (.o 8 (.o 12 (.o 13 .leaf))))) 7 (.o 0 (.o 4 (.o 8 (.o 12 (.o 13 .leaf)))))))))))))), by kernel_rfl, ?_⟩)))
    refine And.intro (by have f1 := hs.1; have f2 := hI1; have f3 := hi1; first | exact ⟨by omega, by omega, by omega⟩ | (first | omega | (dsimp only <;> omega) | (simp (disch := omega) only [wrap_small, mid_eq, mid_eq1, mid_eq2, mid_eq3, List.length_map, List.length_set] <;> omega) | (simp (disch := omega) only [wrap_small, mid_eq, mid_eq1, mid_eq2, mid_eq3, List.length_map, List.length_set] at * <;> omega))) ?_
    refine And.intro (by have f1 := hs.1; have f2 := hI1; have f3 := hi1; first | exact ⟨by omega, by omega, by omega⟩ | (first | omega | (dsimp only <;> omega) | (simp (disch := omega) only [wrap_small, mid_eq, mid_eq1, mid_eq2, mid_eq3, List.length_map, List.length_set] <;> omega) | (simp (disch := omega) only [wrap_small, mid_eq, mid_eq1, mid_eq2, mid_eq3, List.length_map, List.length_set] at * <;> omega))) ?_
    refine And.intro ?_ ?_
    · refine litE (m := 3) rfl ?_
      refine And.intro ?_ ?_
      · refine .inl ?_
        refine rowsE (Y := List.map cInt (List.take ((x2.s).toNat - 0) (List.drop 0 x1.s))) (by first | rfl | (simp [subR0, subR1, -List.map_take, -List.map_drop, take_map', drop_map', fz_cInt, fl_cInt, fzMap fz_cInt, flMap fl_cInt]; done) | (simp [subR0, subR1, -List.map_take, -List.map_drop, take_map', drop_map', fz_cInt, fl_cInt, fzMap fz_cInt, flMap fl_cInt]; rfl)) ?_
        refine appB (b := 8) (hs := by have f1 := hs.1; have f2 := hI1; have f3 := hi1; refine ⟨?_, ?_⟩; (show List.length _ * 8 ≤ _); (try simp only [List.length_map, List.length_append, List.length_cons, List.length_nil, List.length_take, List.length_drop]); omega; (try simp only [List.length_map, List.length_append, List.length_cons, List.length_nil, List.length_take, List.length_drop]); omega) ?_
        refine litE (m := 4) rfl ?_
        refine litE (m := 5) rfl ?_
        refine .inl ?_
        refine rowsE (Y := List.map cInt ((List.take ((x2.s).toNat - 0) (List.drop 0 x1.s)) ++ [(p0[x1.i]'hi1).Stamp])) (by first | rfl | (simp [subR0, subR1, -List.map_take, -List.map_drop, take_map', drop_map', fz_cInt, fl_cInt, fzMap fz_cInt, flMap fl_cInt]; done) | (simp [subR0, subR1, -List.map_take, -List.map_drop, take_map', drop_map', fz_cInt, fl_cInt, fzMap fz_cInt, flMap fl_cInt]; rfl)) ?_
        refine appB (b := 8) (hs := by have f1 := hs.1; have f2 := hI1; have f3 := hi1; refine ⟨?_, ?_⟩; (show List.length _ * 8 ≤ _); (try simp only [List.length_map, List.length_append, List.length_cons, List.length_nil, List.length_take, List.length_drop]); omega; (try simp only [List.length_map, List.length_append, List.length_cons, List.length_nil, List.length_take, List.length_drop]); omega) ?_
        refine litE (m := 6) rfl ?_
        refine .inl ?_
        refine rowsE (Y := List.map cInt (((List.take ((x2.s).toNat - 0) (List.drop 0 x1.s)) ++ [(p0[x1.i]'hi1).Stamp]) ++ (List.take ((x1.s).length - (x2.s).toNat) (List.drop (x2.s).toNat x1.s)))) (by first | rfl | (simp [subR0, subR1, -List.map_take, -List.map_drop, take_map', drop_map', fz_cInt, fl_cInt, fzMap fz_cInt, flMap fl_cInt]; done) | (simp [subR0, subR1, -List.map_take, -List.map_drop, take_map', drop_map', fz_cInt, fl_cInt, fzMap fz_cInt, flMap fl_cInt]; rfl)) ?_
        refine appB (b := 8) (hs := by have f1 := hs.1; have f2 := hI1; have f3 := hi1; refine ⟨?_, ?_⟩; (show List.length _ * 8 ≤ _); (try simp only [List.length_map, List.length_append, List.length_cons, List.length_nil, List.length_take, List.length_drop]); omega; (try simp only [List.length_map, List.length_append, List.length_cons, List.length_nil, List.length_take, List.length_drop]); omega) ?_
        refine litE (m := 7) rfl ?_
        exact x1.goE hi1 hb1 (by have q1 := hI1; (try have q2 := q3); (try simp only [List.length_map, List.length_append, List.length_cons, List.length_nil, List.length_take, List.length_drop]); omega) [some 7] ⟨rfl, ⟨⟨rfl, rfl, rfl, rfl, by (first | rfl | omega | (dsimp only; omega) | (simp; done) | (simp; omega) | (simp [LstSt.init, LstSt.step, LstInv.init, CntSt.init, CntSt.step, CntInv.init, WhlSt.init, WhlSt.step]; done) | (simp [LstSt.init, LstSt.step, LstInv.init, CntSt.init, CntSt.step, CntInv.init, WhlSt.init, WhlSt.step]; omega))⟩, (eqInt hw1), rfl, trivial⟩, ⟨⟨rfl, rfl, rfl⟩, trivial⟩, trivial⟩
      refine And.intro ?_ ?_
      · refine .inl ?_
        refine rowsE (Y := List.map cInt (List.take ((x2.s).toNat - 0) (List.drop 0 x1.s))) (by first | rfl | (simp [subR0, subR1, -List.map_take, -List.map_drop, take_map', drop_map', fz_cInt, fl_cInt, fzMap fz_cInt, flMap fl_cInt]; done) | (simp [subR0, subR1, -List.map_take, -List.map_drop, take_map', drop_map', fz_cInt, fl_cInt, fzMap fz_cInt, flMap fl_cInt]; rfl)) ?_
        refine appB (b := 8) (hs := by have f1 := hs.1; have f2 := hI1; have f3 := hi1; refine ⟨?_, ?_⟩; (show List.length _ * 8 ≤ _); (try simp only [List.length_map, List.length_append, List.length_cons, List.length_nil, List.length_take, List.length_drop]); omega; (try simp only [List.length_map, List.length_append, List.length_cons, List.length_nil, List.length_take, List.length_drop]); omega) ?_
        refine litE (m := 4) rfl ?_
        refine litE (m := 5) rfl ?_
        refine .inl ?_
        refine rowsE (Y := List.map cInt ((List.take ((x2.s).toNat - 0) (List.drop 0 x1.s)) ++ [(p0[x1.i]'hi1).Stamp])) (by first | rfl | (simp [subR0, subR1, -List.map_take, -List.map_drop, take_map', drop_map', fz_cInt, fl_cInt, fzMap fz_cInt, flMap fl_cInt]; done) | (simp [subR0, subR1, -List.map_take, -List.map_drop, take_map', drop_map', fz_cInt, fl_cInt, fzMap fz_cInt, flMap fl_cInt]; rfl)) ?_
        refine appB (b := 8) (hs := by have f1 := hs.1; have f2 := hI1; have f3 := hi1; refine ⟨?_, ?_⟩; (show List.length _ * 8 ≤ _); (try simp only [List.length_map, List.length_append, List.length_cons, List.length_nil, List.length_take, List.length_drop]); omega; (try simp only [List.length_map, List.length_append, List.length_cons, List.length_nil, List.length_take, List.length_drop]); omega) ?_
        refine litE (m := 6) rfl ?_
        refine .inl ?_
        refine rowsE (Y := List.map cInt (((List.take ((x2.s).toNat - 0) (List.drop 0 x1.s)) ++ [(p0[x1.i]'hi1).Stamp]) ++ (List.take ((x1.s).length - (x2.s).toNat) (List.drop (x2.s).toNat x1.s)))) (by first | rfl | (simp [subR0, subR1, -List.map_take, -List.map_drop, take_map', drop_map', fz_cInt, fl_cInt, fzMap fz_cInt, flMap fl_cInt]; done) | (simp [subR0, subR1, -List.map_take, -List.map_drop, take_map', drop_map', fz_cInt, fl_cInt, fzMap fz_cInt, flMap fl_cInt]; rfl)) ?_
        refine appB (b := 8) (hs := by have f1 := hs.1; have f2 := hI1; have f3 := hi1; refine ⟨?_, ?_⟩; (show List.length _ * 8 ≤ _); (try simp only [List.length_map, List.length_append, List.length_cons, List.length_nil, List.length_take, List.length_drop]); omega; (try simp only [List.length_map, List.length_append, List.length_cons, List.length_nil, List.length_take, List.length_drop]); omega) ?_
        refine litE (m := 7) rfl ?_
        exact x1.goE hi1 hb1 (by have q1 := hI1; (try have q2 := q3); (try simp only [List.length_map, List.length_append, List.length_cons, List.length_nil, List.length_take, List.length_drop]); omega) [some 7] ⟨rfl, ⟨⟨rfl, rfl, rfl, rfl, by (first | rfl | omega | (dsimp only; omega) | (simp; done) | (simp; omega) | (simp [LstSt.init, LstSt.step, LstInv.init, CntSt.init, CntSt.step, CntInv.init, WhlSt.init, WhlSt.step]; done) | (simp [LstSt.init, LstSt.step, LstInv.init, CntSt.init, CntSt.step, CntInv.init, WhlSt.init, WhlSt.step]; omega))⟩, (eqInt hw1), rfl, trivial⟩, ⟨⟨rfl, rfl, rfl⟩, trivial⟩, trivial⟩
      refine litE (m := 4) rfl ?_
      refine .inl ?_
      refine rowsE (Y := List.map cInt (List.take ((x2.s).toNat - 0) (List.drop 0 x1.s))) (by first | rfl | (simp [subR0, subR1, -List.map_take, -List.map_drop, take_map', drop_map', fz_cInt, fl_cInt, fzMap fz_cInt, flMap fl_cInt]; done) | (simp [subR0, subR1, -List.map_take, -List.map_drop, take_map', drop_map', fz_cInt, fl_cInt, fzMap fz_cInt, flMap fl_cInt]; rfl)) ?_
      refine appB (b := 8) (hs := by have f1 := hs.1; have f2 := hI1; have f3 := hi1; refine ⟨?_, ?_⟩; (show List.length _ * 8 ≤ _); (try simp only [List.length_map, List.length_append, List.length_cons, List.length_nil, List.length_take, List.length_drop]); omega; (try simp only [List.length_map, List.length_append, List.length_cons, List.length_nil, List.length_take, List.length_drop]); omega) ?_
      refine litE (m := 5) rfl ?_
      refine .inl ?_
      refine rowsE (Y := List.map cInt ((List.take ((x2.s).toNat - 0) (List.drop 0 x1.s)) ++ [(p0[x1.i]'hi1).Stamp])) (by first | rfl | (simp [subR0, subR1, -List.map_take, -List.map_drop, take_map', drop_map', fz_cInt, fl_cInt, fzMap fz_cInt, flMap fl_cInt]; done) | (simp [subR0, subR1, -List.map_take, -List.map_drop, take_map', drop_map', fz_cInt, fl_cInt, fzMap fz_cInt, flMap fl_cInt]; rfl)) ?_
      refine appB (b := 8) (hs := by have f1 := hs.1; have f2 := hI1; have f3 := hi1; refine ⟨?_, ?_⟩; (show List.length _ * 8 ≤ _); (try simp only [List.length_map, List.length_append, List.length_cons, List.length_nil, List.length_take, List.length_drop]); omega; (try simp only [List.length_map, List.length_append, List.length_cons, List.length_nil, List.length_take, List.length_drop]); omega) ?_
      refine litE (m := 6) rfl ?_
      refine .inl ?_
      refine rowsE (Y := List.map cInt (((List.take ((x2.s).toNat - 0) (List.drop 0 x1.s)) ++ [(p0[x1.i]'hi1).Stamp]) ++ (List.take ((x1.s).length - (x2.s).toNat) (List.drop (x2.s).toNat x1.s)))) (by first | rfl | (simp [subR0, subR1, -List.map_take, -List.map_drop, take_map', drop_map', fz_cInt, fl_cInt, fzMap fz_cInt, flMap fl_cInt]; done) | (simp [subR0, subR1, -List.map_take, -List.map_drop, take_map', drop_map', fz_cInt, fl_cInt, fzMap fz_cInt, flMap fl_cInt]; rfl)) ?_
      refine appB (b := 8) (hs := by have f1 := hs.1; have f2 := hI1; have f3 := hi1; refine ⟨?_, ?_⟩; (show List.length _ * 8 ≤ _); (try simp only [List.length_map, List.length_append, List.length_cons, List.length_nil, List.length_take, List.length_drop]); omega; (try simp only [List.length_map, List.length_append, List.length_cons, List.length_nil, List.length_take, List.length_drop]); omega) ?_
      refine litE (m := 7) rfl ?_
      exact x1.goE hi1 hb1 (by have q1 := hI1; (try have q2 := q3); (try simp only [List.length_map, List.length_append, List.length_cons, List.length_nil, List.length_take, List.length_drop]); omega) [some 7] ⟨rfl, ⟨⟨rfl, rfl, rfl, rfl, by (first | rfl | omega | (dsimp only; omega) | (simp; done) | (simp; omega) | (simp [LstSt.init, LstSt.step, LstInv.init, CntSt.init, CntSt.step, CntInv.init, WhlSt.init, WhlSt.step]; done) | (simp [LstSt.init, LstSt.step, LstInv.init, CntSt.init, CntSt.step, CntInv.init, WhlSt.init, WhlSt.step]; omega))⟩, (eqInt hw1), rfl, trivial⟩, ⟨⟨rfl, rfl, rfl⟩, trivial⟩, trivial⟩
    refine And.intro ?_ ?_
    · refine litE (m := 3) rfl ?_
      refine And.intro ?_ ?_
      · refine .inl ?_
        refine rowsE (Y := List.map cInt (List.take ((x2.s).toNat - 0) (List.drop 0 x1.s))) (by first | rfl | (simp [subR0, subR1, -List.map_take, -List.map_drop, take_map', drop_map', fz_cInt, fl_cInt, fzMap fz_cInt, flMap fl_cInt]; done) | (simp [subR0, subR1, -List.map_take, -List.map_drop, take_map', drop_map', fz_cInt, fl_cInt, fzMap fz_cInt, flMap fl_cInt]; rfl)) ?_
        refine appB (b := 8) (hs := by have f1 := hs.1; have f2 := hI1; have f3 := hi1; refine ⟨?_, ?_⟩; (show List.length _ * 8 ≤ _); (try simp only [List.length_map, List.length_append, List.length_cons, List.length_nil, List.length_take, List.length_drop]); omega; (try simp only [List.length_map, List.length_append, List.length_cons, List.length_nil, List.length_take, List.length_drop]); omega) ?_
        refine litE (m := 4) rfl ?_
        refine litE (m := 5) rfl ?_
        refine .inl ?_
        refine rowsE (Y := List.map cInt ((List.take ((x2.s).toNat - 0) (List.drop 0 x1.s)) ++ [(p0[x1.i]'hi1).Stamp])) (by first | rfl | (simp [subR0, subR1, -List.map_take, -List.map_drop, take_map', drop_map', fz_cInt, fl_cInt, fzMap fz_cInt, flMap fl_cInt]; done) | (simp [subR0, subR1, -List.map_take, -List.map_drop, take_map', drop_map', fz_cInt, fl_cInt, fzMap fz_cInt, flMap fl_cInt]; rfl)) ?_
        refine appB (b := 8) (hs := by have f1 := hs.1; have f2 := hI1; have f3 := hi1; refine ⟨?_, ?_⟩; (show List.length _ * 8 ≤ _); (try simp only [List.length_map, List.length_append, List.length_cons, List.length_nil, List.length_take, List.length_drop]); omega; (try simp only [List.length_map, List.length_append, List.length_cons, List.length_nil, List.length_take, List.length_drop]); omega) ?_
        refine litE (m := 6) rfl ?_
        refine .inl ?_
        refine rowsE (Y := List.map cInt (((List.take ((x2.s).toNat - 0) (List.drop 0 x1.s)) ++ [(p0[x1.i]'hi1).Stamp]) ++ (List.take ((x1.s).length - (x2.s).toNat) (List.drop (x2.s).toNat x1.s)))) (by first | rfl | (simp [subR0, subR1, -List.map_take, -List.map_drop, take_map', drop_map', fz_cInt, fl_cInt, fzMap fz_cInt, flMap fl_cInt]; done) | (simp [subR0, subR1, -List.map_take, -List.map_drop, take_map', drop_map', fz_cInt, fl_cInt, fzMap fz_cInt, flMap fl_cInt]; rfl)) ?_
        refine appB (b := 8) (hs := by have f1 := hs.1; have f2 := hI1; have f3 := hi1; refine ⟨?_, ?_⟩; (show List.length _ * 8 ≤ _); (try simp only [List.length_map, List.length_append, List.length_cons, List.length_nil, List.length_take, List.length_drop]); omega; (try simp only [List.length_map, List.length_append, List.length_cons, List.length_nil, List.length_take, List.length_drop]); omega) ?_
        refine litE (m := 7) rfl ?_
        exact x1.goE hi1 hb1 (by have q1 := hI1; (try have q2 := q3); (try simp only [List.length_map, List.length_append, List.length_cons, List.length_nil, List.length_take, List.length_drop]); omega) [some 7] ⟨rfl, ⟨⟨rfl, rfl, rfl, rfl, by (first | rfl | omega | (dsimp only; omega) | (simp; done) | (simp; omega) | (simp [LstSt.init, LstSt.step, LstInv.init, CntSt.init, CntSt.step, CntInv.init, WhlSt.init, WhlSt.step]; done) | (simp [LstSt.init, LstSt.step, LstInv.init, CntSt.init, CntSt.step, CntInv.init, WhlSt.init, WhlSt.step]; omega))⟩, (eqInt hw1), rfl, trivial⟩, ⟨⟨rfl, rfl, rfl⟩, trivial⟩, trivial⟩
      refine litE (m := 4) rfl ?_
      refine .inl ?_
      refine rowsE (Y := List.map cInt (List.take ((x2.s).toNat - 0) (List.drop 0 x1.s))) (by first | rfl | (simp [subR0, subR1, -List.map_take, -List.map_drop, take_map', drop_map', fz_cInt, fl_cInt, fzMap fz_cInt, flMap fl_cInt]; done) | (simp [subR0, subR1, -List.map_take, -List.map_drop, take_map', drop_map', fz_cInt, fl_cInt, fzMap fz_cInt, flMap fl_cInt]; rfl)) ?_
      refine appB (b := 8) (hs := by have f1 := hs.1; have f2 := hI1; have f3 := hi1; refine ⟨?_, ?_⟩; (show List.length _ * 8 ≤ _); (try simp only [List.length_map, List.length_append, List.length_cons, List.length_nil, List.length_take, List.length_drop]); omega; (try simp only [List.length_map, List.length_append, List.length_cons, List.length_nil, List.length_take, List.length_drop]); omega) ?_
      refine litE (m := 5) rfl ?_
      refine .inl ?_
      refine rowsE (Y := List.map cInt ((List.take ((x2.s).toNat - 0) (List.drop 0 x1.s)) ++ [(p0[x1.i]'hi1).Stamp])) (by first | rfl | (simp [subR0, subR1, -List.map_take, -List.map_drop, take_map', drop_map', fz_cInt, fl_cInt, fzMap fz_cInt, flMap fl_cInt]; done) | (simp [subR0, subR1, -List.map_take, -List.map_drop, take_map', drop_map', fz_cInt, fl_cInt, fzMap fz_cInt, flMap fl_cInt]; rfl)) ?_
      refine appB (b := 8) (hs := by have f1 := hs.1; have f2 := hI1; have f3 := hi1; refine ⟨?_, ?_⟩; (show List.length _ * 8 ≤ _); (try simp only [List.length_map, List.length_append, List.length_cons, List.length_nil, List.length_take, List.length_drop]); omega; (try simp only [List.length_map, List.length_append, List.length_cons, List.length_nil, List.length_take, List.length_drop]); omega) ?_
      refine litE (m := 6) rfl ?_
      refine .inl ?_
      refine rowsE (Y := List.map cInt (((List.take ((x2.s).toNat - 0) (List.drop 0 x1.s)) ++ [(p0[x1.i]'hi1).Stamp]) ++ (List.take ((x1.s).length - (x2.s).toNat) (List.drop (x2.s).toNat x1.s)))) (by first | rfl | (simp [subR0, subR1, -List.map_take, -List.map_drop, take_map', drop_map', fz_cInt, fl_cInt, fzMap fz_cInt, flMap fl_cInt]; done) | (simp [subR0, subR1, -List.map_take, -List.map_drop, take_map', drop_map', fz_cInt, fl_cInt, fzMap fz_cInt, flMap fl_cInt]; rfl)) ?_
      refine appB (b := 8) (hs := by have f1 := hs.1; have f2 := hI1; have f3 := hi1; refine ⟨?_, ?_⟩; (show List.length _ * 8 ≤ _); (try simp only [List.length_map, List.length_append, List.length_cons, List.length_nil, List.length_take, List.length_drop]); omega; (try simp only [List.length_map, List.length_append, List.length_cons, List.length_nil, List.length_take, List.length_drop]); omega) ?_
      refine litE (m := 7) rfl ?_
      exact x1.goE hi1 hb1 (by have q1 := hI1; (try have q2 := q3); (try simp only [List.length_map, List.length_append, List.length_cons, List.length_nil, List.length_take, List.length_drop]); omega) [some 7] ⟨rfl, ⟨⟨rfl, rfl, rfl, rfl, by (first | rfl | omega | (dsimp only; omega) | (simp; done) | (simp; omega) | (simp [LstSt.init, LstSt.step, LstInv.init, CntSt.init, CntSt.step, CntInv.init, WhlSt.init, WhlSt.step]; done) | (simp [LstSt.init, LstSt.step, LstInv.init, CntSt.init, CntSt.step, CntInv.init, WhlSt.init, WhlSt.step]; omega))⟩, (eqInt hw1), rfl, trivial⟩, ⟨⟨rfl, rfl, rfl⟩, trivial⟩, trivial⟩
    refine litE (m := 3) rfl ?_
    refine litE (m := 4) rfl ?_
    refine .inl ?_
    refine rowsE (Y := List.map cInt (List.take ((x2.s).toNat - 0) (List.drop 0 x1.s))) (by first | rfl | (simp [subR0, subR1, -List.map_take, -List.map_drop, take_map', drop_map', fz_cInt, fl_cInt, fzMap fz_cInt, flMap fl_cInt]; done) | (simp [subR0, subR1, -List.map_take, -List.map_drop, take_map', drop_map', fz_cInt, fl_cInt, fzMap fz_cInt, flMap fl_cInt]; rfl)) ?_
    refine appB (b := 8) (hs := by have f1 := hs.1; have f2 := hI1; have f3 := hi1; refine ⟨?_, ?_⟩; (show List.length _ * 8 ≤ _); (try simp only [List.length_map, List.length_append, List.length_cons, List.length_nil, List.length_take, List.length_drop]); omega; (try simp only [List.length_map, List.length_append, List.length_cons, List.length_nil, List.length_take, List.length_drop]); omega) ?_
    refine litE (m := 5) rfl ?_
    refine .inl ?_
    refine rowsE (Y := List.map cInt ((List.take ((x2.s).toNat - 0) (List.drop 0 x1.s)) ++ [(p0[x1.i]'hi1).Stamp])) (by first | rfl | (simp [subR0, subR1, -List.map_take, -List.map_drop, take_map', drop_map', fz_cInt, fl_cInt, fzMap fz_cInt, flMap fl_cInt]; done) | (simp [subR0, subR1, -List.map_take, -List.map_drop, take_map', drop_map', fz_cInt, fl_cInt, fzMap fz_cInt, flMap fl_cInt]; rfl)) ?_
    refine appB (b := 8) (hs := by have f1 := hs.1; have f2 := hI1; have f3 := hi1; refine ⟨?_, ?_⟩; (show List.length _ * 8 ≤ _); (try simp only [List.length_map, List.length_append, List.length_cons, List.length_nil, List.length_take, List.length_drop]); omega; (try simp only [List.length_map, List.length_append, List.length_cons, List.length_nil, List.length_take, List.length_drop]); omega) ?_
    refine litE (m := 6) rfl ?_
    refine .inl ?_
    refine rowsE (Y := List.map cInt (((List.take ((x2.s).toNat - 0) (List.drop 0 x1.s)) ++ [(p0[x1.i]'hi1).Stamp]) ++ (List.take ((x1.s).length - (x2.s).toNat) (List.drop (x2.s).toNat x1.s)))) (by first | rfl | (simp [subR0, subR1, -List.map_take, -List.map_drop, take_map', drop_map', fz_cInt, fl_cInt, fzMap fz_cInt, flMap fl_cInt]; done) | (simp [subR0, subR1, -List.map_take, -List.map_drop, take_map', drop_map', fz_cInt, fl_cInt, fzMap fz_cInt, flMap fl_cInt]; rfl)) ?_
    refine appB (b := 8) (hs := by have f1 := hs.1; have f2 := hI1; have f3 := hi1; refine ⟨?_, ?_⟩; (show List.length _ * 8 ≤ _); (try simp only [List.length_map, List.length_append, List.length_cons, List.length_nil, List.length_take, List.length_drop]); omega; (try simp only [List.length_map, List.length_append, List.length_cons, List.length_nil, List.length_take, List.length_drop]); omega) ?_
    refine litE (m := 7) rfl ?_
    exact x1.goE hi1 hb1 (by have q1 := hI1; (try have q2 := q3); (try simp only [List.length_map, List.length_append, List.length_cons, List.length_nil, List.length_take, List.length_drop]); omega) [some 7] ⟨rfl, ⟨⟨rfl, rfl, rfl, rfl, by (first | rfl | omega | (dsimp only; omega) | (simp; done) | (simp; omega) | (simp [LstSt.init, LstSt.step, LstInv.init, CntSt.init, CntSt.step, CntInv.init, WhlSt.init, WhlSt.step]; done) | (simp [LstSt.init, LstSt.step, LstInv.init, CntSt.init, CntSt.step, CntInv.init, WhlSt.init, WhlSt.step]; omega))⟩, (eqInt hw1), rfl, trivial⟩, ⟨⟨rfl, rfl, rfl⟩, trivial⟩, trivial⟩
  have hg := finE hg (x1.fin hi1)
  refine seqE ?_
  exact leafE hown hg
def impl_takenIn (p0 : Deed) : Bool :=
  (bif (p0.Op == 1) then (bif (p0.Lin != (-1)) then (bif (p0.Code == 1) then true else (p0.Code == 2)) else false) else false)
theorem c_impl_takenIn (p0 : Deed) : FnOk prog 41 [.agg ((Deed.cells false) p0)] ⟨.one (.v (.bool (impl_takenIn p0))), [], [], false⟩ := by
  refine FnOk.intro (E := env) envOk wide func41 rfl (by kernel_rfl) rfl rfl ?_
  have hg := impl_takenIn.eq_1 p0
  have hown : ∀ g : Bool, AV.Own (AV.one (.v (.bool g))) := fun g => .v _
  refine seqE ?_
  refine litE (m := 0) rfl ?_
  refine seqE ?_
  exact brQ hg (fun hg h1 => brW hg (fun hg h2 => brQF hg (fun hg h3 => leafE hown hg) (fun hg h3 => leafE hown hg)) (fun hg h2 => leafE hown hg)) (fun hg h1 => leafE hown hg)
def impl_StampsOf_b1 (i1 : Nat) (s1 : (List Int)) (a1 : Deed) : Step ((List Int)) (List Int) :=
  (bif (impl_takenIn a1) then (bif (a1.Code == 1) then (bif (decide (a1.Stamp > 0)) then (.next (s1 ++ [a1.Stamp])) else (.next s1)) else (.next s1)) else (.next s1))
def impl_StampsOf (p0 : (List Deed)) : (List Int) :=
  (Fin.get (fun s1 => (Lib.compact (sortI s1))) (loopL impl_StampsOf_b1 0 ([] : List Int) p0))
theorem c_impl_StampsOf (p0 : (List Deed)) (hs : bdS Deed.bd 1048576 p0) : FnOk prog 10 [.one (.s false 20 (List.map (Deed.cells false) p0))] ⟨.one (.s true 1 (List.map cInt (impl_StampsOf p0))), [], [], false⟩ := by
  refine FnOk.intro (E := env) envOk wide func10 rfl (by kernel_rfl) rfl rfl ?_
  have hg := impl_StampsOf.eq_1 p0
  have hown : ∀ g : (List Int), AV.Own (AV.one (.s true 1 (List.map cInt g))) := fun g => ownSl own_cInt _
  refine seqE ?_
  refine seqE ?_
  refine seqE ?_
  refine seqE ?_
  refine lenM fun hN1 => ?_
  refine loopLI (fun (i : Nat) (s : List Int) => s.length ≤ i) hg (Nat.le_refl _) [6, 7] (fun x1 => [(3, .one (.n 0 [] 1 0 (x1.s).length)), (8, .one (.v (.int .i64 ((x1.i : Nat) : Int))))]) (fun x1 => [.new ⟨1, false, List.map cInt x1.s, 0⟩]) [none] ?_ (fun x1 => ?_)
  · exact ⟨rfl, ⟨⟨rfl, rfl, rfl, rfl, rfl⟩, rfl, rfl, rfl, trivial⟩, ⟨⟨rfl, rfl⟩, trivial⟩, trivial⟩
  have hI1 := x1.hI
  try dsimp only at hI1
  refine seqE ?_
  refine seqE ?_
  refine tstL (fun hi1 => ?_) (fun hi1 => ?_)
  · have hb1 := (x1.bdy hi1).trans (impl_StampsOf_b1.eq_1 ..)
    have hw1 := wrap_succ hi1 (by first | assumption | omega)
    refine seqE ?_
    refine seqE ?_
    refine idxAt hi1 ?_
    refine litE (m := 1) rfl ?_
    refine seqE ?_
    refine .inl (⟨_, _, c_impl_takenIn (p0[x1.i]'hi1), (FzAs.same _), ?_⟩)
    refine litE (m := 3) rfl ?_
    refine brE hb1 (fun hb1 h2 => ?_) (fun hb1 h2 => x1.goE hi1 hb1 (by have q1 := hI1; (try simp only [List.length_map, List.length_append, List.length_cons, List.length_nil, List.length_take, List.length_drop]); omega) [some 0] ⟨rfl, ⟨⟨rfl, rfl, rfl, rfl, by (first | rfl | omega | (dsimp only; omega) | (simp; done) | (simp; omega) | (simp [LstSt.init, LstSt.step, LstInv.init, CntSt.init, CntSt.step, CntInv.init, WhlSt.init, WhlSt.step]; done) | (simp [LstSt.init, LstSt.step, LstInv.init, CntSt.init, CntSt.step, CntInv.init, WhlSt.init, WhlSt.step]; omega))⟩, (eqInt hw1), rfl, rfl, trivial⟩, ⟨⟨rfl, rfl, rfl⟩, trivial⟩, trivial⟩)
    refine brQ hb1 (fun hb1 h3 => ?_) (fun hb1 h3 => x1.goE hi1 hb1 (by have q1 := hI1; (try simp only [List.length_map, List.length_append, List.length_cons, List.length_nil, List.length_take, List.length_drop]); omega) [some 0] ⟨rfl, ⟨⟨rfl, rfl, rfl, rfl, by (first | rfl | omega | (dsimp only; omega) | (simp; done) | (simp; omega) | (simp [LstSt.init, LstSt.step, LstInv.init, CntSt.init, CntSt.step, CntInv.init, WhlSt.init, WhlSt.step]; done) | (simp [LstSt.init, LstSt.step, LstInv.init, CntSt.init, CntSt.step, CntInv.init, WhlSt.init, WhlSt.step]; omega))⟩, (eqInt hw1), rfl, rfl, trivial⟩, ⟨⟨rfl, rfl, rfl⟩, trivial⟩, trivial⟩)
    refine brD hb1 (fun hb1 h4 => ?_) (fun hb1 h4 => x1.goE hi1 hb1 (by have q1 := hI1; (try simp only [List.length_map, List.length_append, List.length_cons, List.length_nil, List.length_take, List.length_drop]); omega) [some 0] ⟨rfl, ⟨⟨rfl, rfl, rfl, rfl, by (first | rfl | omega | (dsimp only; omega) | (simp; done) | (simp; omega) | (simp [LstSt.init, LstSt.step, LstInv.init, CntSt.init, CntSt.step, CntInv.init, WhlSt.init, WhlSt.step]; done) | (simp [LstSt.init, LstSt.step, LstInv.init, CntSt.init, CntSt.step, CntInv.init, WhlSt.init, WhlSt.step]; omega))⟩, (eqInt hw1), rfl, rfl, trivial⟩, ⟨⟨rfl, rfl, rfl⟩, trivial⟩, trivial⟩)
    refine litE (m := 3) rfl ?_
    refine .inl ?_
    refine rowsE (Y := List.map cInt (x1.s ++ [(p0[x1.i]'hi1).Stamp])) (by first | rfl | (simp [subR0, subR1, -List.map_take, -List.map_drop, take_map', drop_map', fz_cInt, fl_cInt, fzMap fz_cInt, flMap fl_cInt]; done) | (simp [subR0, subR1, -List.map_take, -List.map_drop, take_map', drop_map', fz_cInt, fl_cInt, fzMap fz_cInt, flMap fl_cInt]; rfl)) ?_
    refine appB (b := 8) (hs := by have q0 := hs.1; have q1 := hI1; have q2 := hi1; refine ⟨?_, ?_⟩; (show List.length _ * 8 ≤ _); (try simp only [List.length_map, List.length_append, List.length_cons, List.length_nil, List.length_take, List.length_drop]); omega; (try simp only [List.length_map, List.length_append, List.length_cons, List.length_nil, List.length_take, List.length_drop]); omega) ?_
    refine litE (m := 4) rfl ?_
    exact x1.goE hi1 hb1 (by have q1 := hI1; (try simp only [List.length_map, List.length_append, List.length_cons, List.length_nil, List.length_take, List.length_drop]); omega) [some 4] ⟨rfl, ⟨⟨rfl, rfl, rfl, rfl, by (first | rfl | omega | (dsimp only; omega) | (simp; done) | (simp; omega) | (simp [LstSt.init, LstSt.step, LstInv.init, CntSt.init, CntSt.step, CntInv.init, WhlSt.init, WhlSt.step]; done) | (simp [LstSt.init, LstSt.step, LstInv.init, CntSt.init, CntSt.step, CntInv.init, WhlSt.init, WhlSt.step]; omega))⟩, (eqInt hw1), rfl, rfl, trivial⟩, ⟨⟨rfl, rfl, rfl⟩, trivial⟩, trivial⟩
  have hg := finE hg (x1.fin hi1)
  refine seqE ?_
  refine .inr ⟨0, _, _, _, c_sort x1.s (by have q0 := hs.1; have q1 := hI1; have q2 := x1.h; omega), (FzAs.same _), .inl ?_⟩
  refine litE (m := 2) rfl ?_
  refine seqE ?_
  refine .inr ⟨1, _, _, c_compact (sortI x1.s), (FzAs.same _), ?_⟩
  refine litE (m := 3) rfl ?_
  exact leafE hown hg
def laws_eqIntS_b1 (p1 : (List Int)) (i1 : Nat) (s1 : Unit) (a1 : Int) : Step (Unit) Bool :=
  (bif (a1 != (p1[i1]?.getD default)) then (.done false) else (.next ()))
def laws_eqIntS (p0 : (List Int)) (p1 : (List Int)) : Bool :=
  (bif ((((p0).length : Nat) : Int) != (((p1).length : Nat) : Int)) then false else (Fin.get (fun s1 => true) (loopL (laws_eqIntS_b1 p1) 0 () p0)))
theorem c_laws_eqIntS (p0 : (List Int)) (p1 : (List Int)) : FnOk prog 11 [.one (.s false 1 (List.map cInt p0)), .one (.s false 1 (List.map cInt p1))] ⟨.one (.v (.bool (laws_eqIntS p0 p1))), [], [], false⟩ := by
  refine FnOk.intro (E := env) envOk wide func11 rfl (by kernel_rfl) rfl rfl ?_
  have hg := laws_eqIntS.eq_1 p0 p1
  have hown : ∀ g : Bool, AV.Own (AV.one (.v (.bool g))) := fun g => .v _
  refine seqE ?_
  refine seqE ?_
  refine seqE ?_
  refine lenM fun hN1 => ?_
  refine lenM fun hN2 => ?_
  refine brW hg (fun hg h3 => ?_) (fun hg h3 => ?_)
  · refine seqE ?_
    exact leafE hown hg
  · refine seqE ?_
    refine seqE ?_
    refine loopLE hg [0, 1] (fun x1 => [(5, .one (.v (.int .i64 ((x1.i : Nat) : Int))))]) (fun x1 => []) [] ?_ (fun x1 => ?_)
    · exact ⟨rfl, ⟨rfl, rfl, rfl, trivial⟩, trivial, trivial⟩
    refine seqE ?_
    refine seqE ?_
    refine lenM fun hN4 => ?_
    refine tstL (fun hi1 => ?_) (fun hi1 => ?_)
    · have hb1 := (x1.bdy hi1).trans (laws_eqIntS_b1.eq_1 ..)
      have hw1 := wrap_succ hi1 (by first | assumption | omega)
      refine seqE ?_
      refine seqE ?_
      refine .inl ⟨by kernel_rfl, ?_⟩
      refine idxAt hi1 ?_
      refine idxOf (l := p1) (by (first | omega | (simp (disch := omega) only [wrap_small, mid_eq, List.length_map]; omega) | (simp; done) | (simp; omega) | (simp at *; omega) | (simp at *; done) | (simp_all; done) | (simp_all; omega))) (fun hq5 => ?_)
      refine brW hb1 (fun hb1 h6 => ?_) (fun hb1 h6 => x1.goE hi1 hb1 [] ⟨rfl, ⟨(eqInt hw1), rfl, rfl, trivial⟩, trivial, trivial⟩)
      refine seqE ?_
      have hg := donE hg (x1.outD hi1 hb1)
      exact leafE hown hg
    have hg := finE hg (x1.fin hi1)
    refine seqE ?_
    exact leafE hown hg
theorem rf_laws_eqIntS (x : (List Int)) : laws_eqIntS x x = true := eqS_ok (b := laws_eqIntS_b1) (e := fun a b => a == b) (fun a => beq_self_eq_true a) (fun _ _ _ _ => rfl) (fun _ _ => rfl) x
def laws_eqAttr (p0 : Attr) (p1 : Attr) : Bool :=
  (bif (!decide (p0.Key = p1.Key)) then false else (bif (!(p0.Num == p1.Num)) then false else (bif (p0.N != p1.N) then false else (bif (!decide (p0.Text = p1.Text)) then false else true))))
theorem c_laws_eqAttr (p0 : Attr) (p1 : Attr) : FnOk prog 160 [.agg (Attr.cells p0), .agg (Attr.cells p1)] ⟨.one (.v (.bool (laws_eqAttr p0 p1))), [], [], false⟩ := by
  refine FnOk.intro (E := env) envOk wide func160 rfl (by kernel_rfl) rfl rfl ?_
  have hg := laws_eqAttr.eq_1 p0 p1
  have hown : ∀ g : Bool, AV.Own (AV.one (.v (.bool g))) := fun g => .v _
  refine seqE ?_
  refine litE (m := 0) rfl ?_
  refine litE (m := 1) rfl ?_
  refine seqE ?_
  refine seqE ?_
  refine brE hg (fun hg h1 => ?_) (fun hg h1 => ?_)
  · refine seqE ?_
    exact leafE hown hg
  · refine seqE ?_
    refine seqE ?_
    refine brE hg (fun hg h2 => ?_) (fun hg h2 => ?_)
    · refine seqE ?_
      exact leafE hown hg
    · refine seqE ?_
      refine seqE ?_
      refine brW hg (fun hg h3 => ?_) (fun hg h3 => ?_)
      · refine seqE ?_
        exact leafE hown hg
      · refine seqE ?_
        refine seqE ?_
        refine brE hg (fun hg h4 => ?_) (fun hg h4 => ?_)
        · refine seqE ?_
          exact leafE hown hg
        · refine seqE ?_
          exact leafE hown hg
theorem rf_laws_eqAttr (x : Attr) : laws_eqAttr x x = true := by
  simp [laws_eqAttr]
def laws_eqAttrS_b1 (p1 : (List Attr)) (i1 : Nat) (s1 : Unit) (a1 : Attr) : Step (Unit) Bool :=
  (bif (!(laws_eqAttr a1 (p1[i1]?.getD default))) then (.done false) else (.next ()))
def laws_eqAttrS (p0 : (List Attr)) (p1 : (List Attr)) : Bool :=
  (bif ((((p0).length : Nat) : Int) != (((p1).length : Nat) : Int)) then false else (Fin.get (fun s1 => true) (loopL (laws_eqAttrS_b1 p1) 0 () p0)))
theorem c_laws_eqAttrS (p0 : (List Attr)) (p1 : (List Attr)) : FnOk prog 130 [.one (.s false 4 (List.map Attr.cells p0)), .one (.s false 4 (List.map Attr.cells p1))] ⟨.one (.v (.bool (laws_eqAttrS p0 p1))), [], [], false⟩ := by
  refine FnOk.intro (E := env) envOk wide func130 rfl (by kernel_rfl) rfl rfl ?_
  have hg := laws_eqAttrS.eq_1 p0 p1
  have hown : ∀ g : Bool, AV.Own (AV.one (.v (.bool g))) := fun g => .v _
  refine seqE ?_
  refine seqE ?_
  refine seqE ?_
  refine lenM fun hN1 => ?_
  refine lenM fun hN2 => ?_
  refine brW hg (fun hg h3 => ?_) (fun hg h3 => ?_)
  · refine seqE ?_
    exact leafE hown hg
  · refine seqE ?_
    refine seqE ?_
    refine loopLE hg [0, 1] (fun x1 => [(5, .one (.v (.int .i64 ((x1.i : Nat) : Int))))]) (fun x1 => []) [] ?_ (fun x1 => ?_)
    · exact ⟨rfl, ⟨rfl, rfl, rfl, trivial⟩, trivial, trivial⟩
    refine seqE ?_
    refine seqE ?_
    refine lenM fun hN4 => ?_
    refine tstL (fun hi1 => ?_) (fun hi1 => ?_)
    · have hb1 := (x1.bdy hi1).trans (laws_eqAttrS_b1.eq_1 ..)
      have hw1 := wrap_succ hi1 (by first | assumption | omega)
      refine seqE ?_
      refine seqE ?_
      refine .inl ⟨by kernel_rfl, ?_⟩
      refine idxAt hi1 ?_
      refine idxOf (l := p1) (by (first | omega | (simp (disch := omega) only [wrap_small, mid_eq, List.length_map]; omega) | (simp; done) | (simp; omega) | (simp at *; omega) | (simp at *; done) | (simp_all; done) | (simp_all; omega))) (fun hq5 => ?_)
      refine ⟨_, _, c_laws_eqAttr (p0[x1.i]'hi1) (p1[x1.i]?.getD default), (FzAs.same _), ?_⟩
      refine brE hb1 (fun hb1 h6 => ?_) (fun hb1 h6 => x1.goE hi1 hb1 [] ⟨rfl, ⟨(eqInt hw1), rfl, rfl, trivial⟩, trivial, trivial⟩)
      refine seqE ?_
      have hg := donE hg (x1.outD hi1 hb1)
      exact leafE hown hg
    have hg := finE hg (x1.fin hi1)
    refine seqE ?_
    exact leafE hown hg
theorem rf_laws_eqAttrS (x : (List Attr)) : laws_eqAttrS x x = true := eqS_ok (b := laws_eqAttrS_b1) rf_laws_eqAttr (fun _ _ _ _ => rfl) (fun _ _ => rfl) x
def laws_eqSpan (p0 : Span) (p1 : Span) : Bool :=
  (bif (p0.Trace != p1.Trace) then false else (bif (p0.Id != p1.Id) then false else (bif (p0.Start != p1.Start) then false else (bif (p0.End != p1.End) then false else (bif (!(p0.Err == p1.Err)) then false else (bif (!(laws_eqAttrS p0.Attrs p1.Attrs)) then false else true))))))
theorem c_laws_eqSpan (p0 : Span) (p1 : Span) : FnOk prog 79 [.agg ((Span.cells false) p0), .agg ((Span.cells false) p1)] ⟨.one (.v (.bool (laws_eqSpan p0 p1))), [], [], false⟩ := by
  refine FnOk.intro (E := env) envOk wide func79 rfl (by kernel_rfl) rfl rfl ?_
  have hg := laws_eqSpan.eq_1 p0 p1
  have hown : ∀ g : Bool, AV.Own (AV.one (.v (.bool g))) := fun g => .v _
  refine seqE ?_
  refine litE (m := 0) rfl ?_
  refine litE (m := 1) rfl ?_
  refine seqE ?_
  refine seqE ?_
  refine brW hg (fun hg h1 => ?_) (fun hg h1 => ?_)
  · refine seqE ?_
    exact leafE hown hg
  · refine seqE ?_
    refine seqE ?_
    refine brW hg (fun hg h2 => ?_) (fun hg h2 => ?_)
    · refine seqE ?_
      exact leafE hown hg
    · refine seqE ?_
      refine seqE ?_
      refine brW hg (fun hg h3 => ?_) (fun hg h3 => ?_)
      · refine seqE ?_
        exact leafE hown hg
      · refine seqE ?_
        refine seqE ?_
        refine brW hg (fun hg h4 => ?_) (fun hg h4 => ?_)
        · refine seqE ?_
          exact leafE hown hg
        · refine seqE ?_
          refine seqE ?_
          refine brE hg (fun hg h5 => ?_) (fun hg h5 => ?_)
          · refine seqE ?_
            exact leafE hown hg
          · refine seqE ?_
            refine seqE ?_
            refine .inl (⟨_, _, c_laws_eqAttrS p0.Attrs p1.Attrs, (FzAs.same _), ?_⟩)
            refine litE (m := 3) rfl ?_
            refine brE hg (fun hg h6 => ?_) (fun hg h6 => ?_)
            · refine seqE ?_
              exact leafE hown hg
            · refine seqE ?_
              exact leafE hown hg
theorem rf_laws_eqSpan (x : Span) : laws_eqSpan x x = true := by
  simp [laws_eqSpan, rf_laws_eqAttrS]
def laws_eqDeed (p0 : Deed) (p1 : Deed) : Bool :=
  (bif (p0.Op != p1.Op) then false else (bif (p0.Task != p1.Task) then false else (bif (!(laws_eqSpan p0.S p1.S)) then false else (bif (p0.Trace != p1.Trace) then false else (bif (p0.Stamp != p1.Stamp) then false else (bif (p0.Code != p1.Code) then false else (bif (!(p0.Keep == p1.Keep)) then false else (bif (!(p0.Void == p1.Void)) then false else (bif (p0.Took != p1.Took) then false else (bif (p0.N != p1.N) then false else (bif (p0.Forgot != p1.Forgot) then false else (bif (p0.Now != p1.Now) then false else (bif (p0.Inv != p1.Inv) then false else (bif (p0.Lin != p1.Lin) then false else (bif (p0.Res != p1.Res) then false else true)))))))))))))))
theorem c_laws_eqDeed (p0 : Deed) (p1 : Deed) : FnOk prog 44 [.agg ((Deed.cells false) p0), .agg ((Deed.cells false) p1)] ⟨.one (.v (.bool (laws_eqDeed p0 p1))), [], [], false⟩ := by
  refine FnOk.intro (E := env) envOk wide func44 rfl (by kernel_rfl) rfl rfl ?_
  have hg := laws_eqDeed.eq_1 p0 p1
  have hown : ∀ g : Bool, AV.Own (AV.one (.v (.bool g))) := fun g => .v _
  refine seqE ?_
  refine litE (m := 0) rfl ?_
  refine litE (m := 1) rfl ?_
  refine seqE ?_
  refine seqE ?_
  refine brW hg (fun hg h1 => ?_) (fun hg h1 => ?_)
  · refine seqE ?_
    exact leafE hown hg
  · refine seqE ?_
    refine seqE ?_
    refine brW hg (fun hg h2 => ?_) (fun hg h2 => ?_)
    · refine seqE ?_
      exact leafE hown hg
    · refine seqE ?_
      refine seqE ?_
      refine .inl (⟨_, _, c_laws_eqSpan p0.S p1.S, (FzAs.same _), ?_⟩)
      refine litE (m := 3) rfl ?_
      refine brE hg (fun hg h3 => ?_) (fun hg h3 => ?_)
      · refine seqE ?_
        exact leafE hown hg
      · refine seqE ?_
        refine seqE ?_
        refine brW hg (fun hg h4 => ?_) (fun hg h4 => ?_)
        · refine seqE ?_
          exact leafE hown hg
        · refine seqE ?_
          refine seqE ?_
          refine brW hg (fun hg h5 => ?_) (fun hg h5 => ?_)
          · refine seqE ?_
            exact leafE hown hg
          · refine seqE ?_
            refine seqE ?_
            refine brW hg (fun hg h6 => ?_) (fun hg h6 => ?_)
            · refine seqE ?_
              exact leafE hown hg
            · refine seqE ?_
              refine seqE ?_
              refine brE hg (fun hg h7 => ?_) (fun hg h7 => ?_)
              · refine seqE ?_
                exact leafE hown hg
              · refine seqE ?_
                refine seqE ?_
                refine brE hg (fun hg h8 => ?_) (fun hg h8 => ?_)
                · refine seqE ?_
                  exact leafE hown hg
                · refine seqE ?_
                  refine seqE ?_
                  refine brW hg (fun hg h9 => ?_) (fun hg h9 => ?_)
                  · refine seqE ?_
                    exact leafE hown hg
                  · refine seqE ?_
                    refine seqE ?_
                    refine brW hg (fun hg h10 => ?_) (fun hg h10 => ?_)
                    · refine seqE ?_
                      exact leafE hown hg
                    · refine seqE ?_
                      refine seqE ?_
                      refine brW hg (fun hg h11 => ?_) (fun hg h11 => ?_)
                      · refine seqE ?_
                        exact leafE hown hg
                      · refine seqE ?_
                        refine seqE ?_
                        refine brW hg (fun hg h12 => ?_) (fun hg h12 => ?_)
                        · refine seqE ?_
                          exact leafE hown hg
                        · refine seqE ?_
                          refine seqE ?_
                          refine brW hg (fun hg h13 => ?_) (fun hg h13 => ?_)
                          · refine seqE ?_
                            exact leafE hown hg
                          · refine seqE ?_
                            refine seqE ?_
                            refine brW hg (fun hg h14 => ?_) (fun hg h14 => ?_)
                            · refine seqE ?_
                              exact leafE hown hg
                            · refine seqE ?_
                              refine seqE ?_
                              refine brW hg (fun hg h15 => ?_) (fun hg h15 => ?_)
                              · refine seqE ?_
                                exact leafE hown hg
                              · refine seqE ?_
                                exact leafE hown hg
theorem rf_laws_eqDeed (x : Deed) : laws_eqDeed x x = true := by
  simp [laws_eqDeed, rf_laws_eqSpan]
def laws_eqDeedS_b1 (p1 : (List Deed)) (i1 : Nat) (s1 : Unit) (a1 : Deed) : Step (Unit) Bool :=
  (bif (!(laws_eqDeed a1 (p1[i1]?.getD default))) then (.done false) else (.next ()))
def laws_eqDeedS (p0 : (List Deed)) (p1 : (List Deed)) : Bool :=
  (bif ((((p0).length : Nat) : Int) != (((p1).length : Nat) : Int)) then false else (Fin.get (fun s1 => true) (loopL (laws_eqDeedS_b1 p1) 0 () p0)))
theorem c_laws_eqDeedS (p0 : (List Deed)) (p1 : (List Deed)) : FnOk prog 12 [.one (.s false 20 (List.map (Deed.cells false) p0)), .one (.s false 20 (List.map (Deed.cells false) p1))] ⟨.one (.v (.bool (laws_eqDeedS p0 p1))), [], [], false⟩ := by
  refine FnOk.intro (E := env) envOk wide func12 rfl (by kernel_rfl) rfl rfl ?_
  have hg := laws_eqDeedS.eq_1 p0 p1
  have hown : ∀ g : Bool, AV.Own (AV.one (.v (.bool g))) := fun g => .v _
  refine seqE ?_
  refine seqE ?_
  refine seqE ?_
  refine lenM fun hN1 => ?_
  refine lenM fun hN2 => ?_
  refine brW hg (fun hg h3 => ?_) (fun hg h3 => ?_)
  · refine seqE ?_
    exact leafE hown hg
  · refine seqE ?_
    refine seqE ?_
    refine loopLE hg [0, 1] (fun x1 => [(5, .one (.v (.int .i64 ((x1.i : Nat) : Int))))]) (fun x1 => []) [] ?_ (fun x1 => ?_)
    · exact ⟨rfl, ⟨rfl, rfl, rfl, trivial⟩, trivial, trivial⟩
    refine seqE ?_
    refine seqE ?_
    refine lenM fun hN4 => ?_
    refine tstL (fun hi1 => ?_) (fun hi1 => ?_)
    · have hb1 := (x1.bdy hi1).trans (laws_eqDeedS_b1.eq_1 ..)
      have hw1 := wrap_succ hi1 (by first | assumption | omega)
      refine seqE ?_
      refine seqE ?_
      refine .inl ⟨by kernel_rfl, ?_⟩
      refine idxAt hi1 ?_
      refine idxOf (l := p1) (by (first | omega | (simp (disch := omega) only [wrap_small, mid_eq, List.length_map]; omega) | (simp; done) | (simp; omega) | (simp at *; omega) | (simp at *; done) | (simp_all; done) | (simp_all; omega))) (fun hq5 => ?_)
      refine ⟨_, _, c_laws_eqDeed (p0[x1.i]'hi1) (p1[x1.i]?.getD default), (FzAs.same _), ?_⟩
      refine brE hb1 (fun hb1 h6 => ?_) (fun hb1 h6 => x1.goE hi1 hb1 [] ⟨rfl, ⟨(eqInt hw1), rfl, rfl, trivial⟩, trivial, trivial⟩)
      refine seqE ?_
      have hg := donE hg (x1.outD hi1 hb1)
      exact leafE hown hg
    have hg := finE hg (x1.fin hi1)
    refine seqE ?_
    exact leafE hown hg
theorem rf_laws_eqDeedS (x : (List Deed)) : laws_eqDeedS x x = true := eqS_ok (b := laws_eqDeedS_b1) rf_laws_eqDeed (fun _ _ _ _ => rfl) (fun _ _ => rfl) x
def laws_markAttrS_b1 (i1 : Nat) (s1 : (List Attr) × Int) (a1 : Attr) : Step ((List Attr) × Int) (Int × (List Attr)) :=
  (.next ((List.set s1.1 i1 (Attr.mk (laws_markText s1.2) ((Int.tmod (IntKind.i64.wrap (s1.2 + 1)) 3) == 0) (IntKind.i64.wrap ((IntKind.i64.wrap (s1.2 + 1)) + 1)) (laws_markText (IntKind.i64.wrap ((IntKind.i64.wrap ((IntKind.i64.wrap (s1.2 + 1)) + 1)) + 1))))), (IntKind.i64.wrap ((IntKind.i64.wrap ((IntKind.i64.wrap ((IntKind.i64.wrap (s1.2 + 1)) + 1)) + 1)) + 1))))
def laws_markAttrS (p0 : (List Attr)) (p1 : Int) : (Int × (List Attr)) :=
  (Fin.get (fun s1 => (s1.2, s1.1)) (loopL laws_markAttrS_b1 0 (p0, p1) p0))
theorem c_laws_markAttrS (p0 : (List Attr)) (p1 : Int) : FnOk prog 45 [.tup [.one (.s true 4 (List.map Attr.cells p0))], .one (.v (.int .i64 p1))] ⟨.one (.v (.int .i64 (laws_markAttrS p0 p1).1)), [.one (.s true 4 (List.map Attr.cells ((laws_markAttrS p0 p1).2)))], [], false⟩ := by
  refine FnOk.introM (E := env) envOk wide func45 rfl (by kernel_rfl) rfl ?_
  have hg := laws_markAttrS.eq_1 p0 p1
  have hown : (∀ g : (Int × (List Attr)), AV.Own (AV.one (.v (.int .i64 g.1)))) ∧ (fun g : (Int × (List Attr)) => T.s true 4 (List.map Attr.cells (g.2))) = _ := ⟨fun g => .v _, rfl⟩
  refine seqE ?_
  refine seqE ?_
  refine seqE ?_
  refine loopLI (fun _ s => (s.1).length = (p0).length) hg (by simp) [0] (fun x1 => [(1, .one (.v (.int .i64 x1.s.2))), (5, .one (.v (.int .i64 ((x1.i : Nat) : Int))))]) (fun x1 => [.dead, .new ⟨4, false, List.map Attr.cells x1.s.1, 0⟩]) [none, some 1] ?_ (fun x1 => ?_)
  · exact ⟨rfl, ⟨rfl, rfl, ⟨rfl, rfl, rfl, rfl, by (first | rfl | omega | (dsimp only; omega) | (simp; done) | (simp; omega) | (simp [LstSt.init, LstSt.step, LstInv.init, CntSt.init, CntSt.step, CntInv.init, WhlSt.init, WhlSt.step]; done) | (simp [LstSt.init, LstSt.step, LstInv.init, CntSt.init, CntSt.step, CntInv.init, WhlSt.init, WhlSt.step]; omega))⟩, trivial⟩, ⟨⟨rfl, rfl, rfl⟩, trivial⟩, ⟨⟨rfl, rfl, rfl, rfl, by (first | rfl | omega | (dsimp only; omega) | (simp; done) | (simp; omega) | (simp [LstSt.init, LstSt.step, LstInv.init, CntSt.init, CntSt.step, CntInv.init, WhlSt.init, WhlSt.step]; done) | (simp [LstSt.init, LstSt.step, LstInv.init, CntSt.init, CntSt.step, CntInv.init, WhlSt.init, WhlSt.step]; omega))⟩, trivial⟩⟩
  have hI1 : (x1.s.1).length = (p0).length := by simpa using x1.hI
  refine seqE ?_
  refine seqE ?_
  refine lenE (k := (p0).length) (by simp) (fun hN1 => ?_)
  refine tstL (fun hi1 => ?_) (fun hi1 => ?_)
  · have hb1 := (x1.bdy hi1).trans (laws_markAttrS_b1.eq_1 ..)
    have hw1 := wrap_succ hi1 (by first | assumption | omega)
    refine seqE ?_
    refine seqE ?_
    refine .inl (⟨_, _, c_laws_markText x1.s.2, (FzAs.same _), ?_⟩)
    refine litE (m := 3) rfl ?_
    refine andE (by (first | omega | (simp (disch := omega) only [wrap_small, mid_eq, List.length_map]; omega) | (simp; done) | (simp; omega) | (simp at *; omega) | (simp at *; done) | (simp_all; done) | (simp_all; omega))) ?_
    refine rowsE (Y := List.map Attr.cells (List.set x1.s.1 x1.i (Attr.mk (laws_markText x1.s.2) (x1.s.1[x1.i]?.getD default).Num (x1.s.1[x1.i]?.getD default).N (x1.s.1[x1.i]?.getD default).Text))) (by exact setMapE (by simp) (fun a ha => by first | rfl | (simp only [ha, Option.getD_some]; rfl) | (obtain ⟨_, rfl⟩ := List.getElem?_eq_some_iff.1 ha; rfl) | (simp only [Pol.cells_eq]; rfl) | (simp only [ha, Option.getD_some, Pol.cells_eq]; rfl))) ?_
    refine seqE ?_
    refine seqE ?_
    refine andE (by (first | omega | (simp (disch := omega) only [wrap_small, mid_eq, List.length_map]; omega) | (simp; done) | (simp; omega) | (simp at *; omega) | (simp at *; done) | (simp_all; done) | (simp_all; omega))) ?_
    refine andE (by (first | omega | (simp (disch := omega) only [wrap_small, mid_eq, List.length_map]; omega) | (simp; done) | (simp; omega) | (simp at *; omega) | (simp at *; done) | (simp_all; done) | (simp_all; omega))) ?_
    refine rowsE (Y := List.map Attr.cells (List.set x1.s.1 x1.i (Attr.mk (laws_markText x1.s.2) ((Int.tmod (IntKind.i64.wrap (x1.s.2 + 1)) 3) == 0) (x1.s.1[x1.i]?.getD default).N (x1.s.1[x1.i]?.getD default).Text))) (by exact setMapS (by simp) (by first | rfl | (simp only [ha, Option.getD_some]; rfl) | (obtain ⟨_, rfl⟩ := List.getElem?_eq_some_iff.1 ha; rfl) | (simp only [Pol.cells_eq]; rfl) | (simp only [ha, Option.getD_some, Pol.cells_eq]; rfl))) ?_
    refine seqE ?_
    refine seqE ?_
    refine andE (by (first | omega | (simp (disch := omega) only [wrap_small, mid_eq, List.length_map]; omega) | (simp; done) | (simp; omega) | (simp at *; omega) | (simp at *; done) | (simp_all; done) | (simp_all; omega))) ?_
    refine rowsE (Y := List.map Attr.cells (List.set x1.s.1 x1.i (Attr.mk (laws_markText x1.s.2) ((Int.tmod (IntKind.i64.wrap (x1.s.2 + 1)) 3) == 0) (IntKind.i64.wrap ((IntKind.i64.wrap (x1.s.2 + 1)) + 1)) (x1.s.1[x1.i]?.getD default).Text))) (by exact setMapS (by simp) (by first | rfl | (simp only [ha, Option.getD_some]; rfl) | (obtain ⟨_, rfl⟩ := List.getElem?_eq_some_iff.1 ha; rfl) | (simp only [Pol.cells_eq]; rfl) | (simp only [ha, Option.getD_some, Pol.cells_eq]; rfl))) ?_
    refine seqE ?_
    refine seqE ?_
    refine .inl (⟨_, _, c_laws_markText (IntKind.i64.wrap ((IntKind.i64.wrap ((IntKind.i64.wrap (x1.s.2 + 1)) + 1)) + 1)), (FzAs.same _), ?_⟩)
    refine litE (m := 4) rfl ?_
    refine andE (by (first | omega | (simp (disch := omega) only [wrap_small, mid_eq, List.length_map]; omega) | (simp; done) | (simp; omega) | (simp at *; omega) | (simp at *; done) | (simp_all; done) | (simp_all; omega))) ?_
    refine rowsE (Y := List.map Attr.cells (List.set x1.s.1 x1.i (Attr.mk (laws_markText x1.s.2) ((Int.tmod (IntKind.i64.wrap (x1.s.2 + 1)) 3) == 0) (IntKind.i64.wrap ((IntKind.i64.wrap (x1.s.2 + 1)) + 1)) (laws_markText (IntKind.i64.wrap ((IntKind.i64.wrap ((IntKind.i64.wrap (x1.s.2 + 1)) + 1)) + 1)))))) (by exact setMapS (by simp) (by first | rfl | (simp only [ha, Option.getD_some]; rfl) | (obtain ⟨_, rfl⟩ := List.getElem?_eq_some_iff.1 ha; rfl) | (simp only [Pol.cells_eq]; rfl) | (simp only [ha, Option.getD_some, Pol.cells_eq]; rfl))) ?_
    exact x1.goE hi1 hb1 (by simpa using x1.hI) [none, some 1] ⟨rfl, ⟨rfl, (eqInt hw1), ⟨rfl, rfl, rfl, rfl, by (first | rfl | omega | (dsimp only; omega) | (simp; done) | (simp; omega) | (simp [LstSt.init, LstSt.step, LstInv.init, CntSt.init, CntSt.step, CntInv.init, WhlSt.init, WhlSt.step]; done) | (simp [LstSt.init, LstSt.step, LstInv.init, CntSt.init, CntSt.step, CntInv.init, WhlSt.init, WhlSt.step]; omega))⟩, trivial⟩, ⟨⟨rfl, rfl, rfl⟩, trivial⟩, ⟨⟨rfl, rfl, rfl, rfl, by (first | rfl | omega | (dsimp only; omega) | (simp; done) | (simp; omega) | (simp [LstSt.init, LstSt.step, LstInv.init, CntSt.init, CntSt.step, CntInv.init, WhlSt.init, WhlSt.step]; done) | (simp [LstSt.init, LstSt.step, LstInv.init, CntSt.init, CntSt.step, CntInv.init, WhlSt.init, WhlSt.step]; omega))⟩, trivial⟩⟩
  have hg := finE hg (x1.fin hi1)
  refine seqE ?_
  exact leafM hown hg
def laws_markDeedS_b1 (i1 : Nat) (s1 : (List Deed) × Int) (a1 : Deed) : Step ((List Deed) × Int) (Int × (List Deed)) :=
  (.next ((List.set s1.1 i1 (Deed.mk s1.2 (IntKind.i64.wrap (s1.2 + 1)) (Span.mk (IntKind.i64.wrap ((IntKind.i64.wrap (s1.2 + 1)) + 1)) (IntKind.i64.wrap ((IntKind.i64.wrap ((IntKind.i64.wrap (s1.2 + 1)) + 1)) + 1)) (IntKind.i64.wrap ((IntKind.i64.wrap ((IntKind.i64.wrap ((IntKind.i64.wrap (s1.2 + 1)) + 1)) + 1)) + 1)) (IntKind.i64.wrap ((IntKind.i64.wrap ((IntKind.i64.wrap ((IntKind.i64.wrap ((IntKind.i64.wrap (s1.2 + 1)) + 1)) + 1)) + 1)) + 1)) ((Int.tmod (IntKind.i64.wrap ((IntKind.i64.wrap ((IntKind.i64.wrap ((IntKind.i64.wrap ((IntKind.i64.wrap ((IntKind.i64.wrap (s1.2 + 1)) + 1)) + 1)) + 1)) + 1)) + 1)) 3) == 0) (laws_markAttrS (s1.1[i1]?.getD default).S.Attrs (IntKind.i64.wrap ((IntKind.i64.wrap ((IntKind.i64.wrap ((IntKind.i64.wrap ((IntKind.i64.wrap ((IntKind.i64.wrap ((IntKind.i64.wrap (s1.2 + 1)) + 1)) + 1)) + 1)) + 1)) + 1)) + 1))).2) (laws_markAttrS (s1.1[i1]?.getD default).S.Attrs (IntKind.i64.wrap ((IntKind.i64.wrap ((IntKind.i64.wrap ((IntKind.i64.wrap ((IntKind.i64.wrap ((IntKind.i64.wrap ((IntKind.i64.wrap (s1.2 + 1)) + 1)) + 1)) + 1)) + 1)) + 1)) + 1))).1 (IntKind.i64.wrap ((laws_markAttrS (s1.1[i1]?.getD default).S.Attrs (IntKind.i64.wrap ((IntKind.i64.wrap ((IntKind.i64.wrap ((IntKind.i64.wrap ((IntKind.i64.wrap ((IntKind.i64.wrap ((IntKind.i64.wrap (s1.2 + 1)) + 1)) + 1)) + 1)) + 1)) + 1)) + 1))).1 + 1)) (IntKind.i64.wrap ((IntKind.i64.wrap ((laws_markAttrS (s1.1[i1]?.getD default).S.Attrs (IntKind.i64.wrap ((IntKind.i64.wrap ((IntKind.i64.wrap ((IntKind.i64.wrap ((IntKind.i64.wrap ((IntKind.i64.wrap ((IntKind.i64.wrap (s1.2 + 1)) + 1)) + 1)) + 1)) + 1)) + 1)) + 1))).1 + 1)) + 1)) ((Int.tmod (IntKind.i64.wrap ((IntKind.i64.wrap ((IntKind.i64.wrap ((laws_markAttrS (s1.1[i1]?.getD default).S.Attrs (IntKind.i64.wrap ((IntKind.i64.wrap ((IntKind.i64.wrap ((IntKind.i64.wrap ((IntKind.i64.wrap ((IntKind.i64.wrap ((IntKind.i64.wrap (s1.2 + 1)) + 1)) + 1)) + 1)) + 1)) + 1)) + 1))).1 + 1)) + 1)) + 1)) 3) == 0) ((Int.tmod (IntKind.i64.wrap ((IntKind.i64.wrap ((IntKind.i64.wrap ((IntKind.i64.wrap ((laws_markAttrS (s1.1[i1]?.getD default).S.Attrs (IntKind.i64.wrap ((IntKind.i64.wrap ((IntKind.i64.wrap ((IntKind.i64.wrap ((IntKind.i64.wrap ((IntKind.i64.wrap ((IntKind.i64.wrap (s1.2 + 1)) + 1)) + 1)) + 1)) + 1)) + 1)) + 1))).1 + 1)) + 1)) + 1)) + 1)) 3) == 0) (IntKind.i64.wrap ((IntKind.i64.wrap ((IntKind.i64.wrap ((IntKind.i64.wrap ((IntKind.i64.wrap ((laws_markAttrS (s1.1[i1]?.getD default).S.Attrs (IntKind.i64.wrap ((IntKind.i64.wrap ((IntKind.i64.wrap ((IntKind.i64.wrap ((IntKind.i64.wrap ((IntKind.i64.wrap ((IntKind.i64.wrap (s1.2 + 1)) + 1)) + 1)) + 1)) + 1)) + 1)) + 1))).1 + 1)) + 1)) + 1)) + 1)) + 1)) (IntKind.i64.wrap ((IntKind.i64.wrap ((IntKind.i64.wrap ((IntKind.i64.wrap ((IntKind.i64.wrap ((IntKind.i64.wrap ((laws_markAttrS (s1.1[i1]?.getD default).S.Attrs (IntKind.i64.wrap ((IntKind.i64.wrap ((IntKind.i64.wrap ((IntKind.i64.wrap ((IntKind.i64.wrap ((IntKind.i64.wrap ((IntKind.i64.wrap (s1.2 + 1)) + 1)) + 1)) + 1)) + 1)) + 1)) + 1))).1 + 1)) + 1)) + 1)) + 1)) + 1)) + 1)) (IntKind.i64.wrap ((IntKind.i64.wrap ((IntKind.i64.wrap ((IntKind.i64.wrap ((IntKind.i64.wrap ((IntKind.i64.wrap ((IntKind.i64.wrap ((laws_markAttrS (s1.1[i1]?.getD default).S.Attrs (IntKind.i64.wrap ((IntKind.i64.wrap ((IntKind.i64.wrap ((IntKind.i64.wrap ((IntKind.i64.wrap ((IntKind.i64.wrap ((IntKind.i64.wrap (s1.2 + 1)) + 1)) + 1)) + 1)) + 1)) + 1)) + 1))).1 + 1)) + 1)) + 1)) + 1)) + 1)) + 1)) + 1)) (IntKind.i64.wrap ((IntKind.i64.wrap ((IntKind.i64.wrap ((IntKind.i64.wrap ((IntKind.i64.wrap ((IntKind.i64.wrap ((IntKind.i64.wrap ((IntKind.i64.wrap ((laws_markAttrS (s1.1[i1]?.getD default).S.Attrs (IntKind.i64.wrap ((IntKind.i64.wrap ((IntKind.i64.wrap ((IntKind.i64.wrap ((IntKind.i64.wrap ((IntKind.i64.wrap ((IntKind.i64.wrap (s1.2 + 1)) + 1)) + 1)) + 1)) + 1)) + 1)) + 1))).1 + 1)) + 1)) + 1)) + 1)) + 1)) + 1)) + 1)) + 1)) (IntKind.i64.wrap ((IntKind.i64.wrap ((IntKind.i64.wrap ((IntKind.i64.wrap ((IntKind.i64.wrap ((IntKind.i64.wrap ((IntKind.i64.wrap ((IntKind.i64.wrap ((IntKind.i64.wrap ((laws_markAttrS (s1.1[i1]?.getD default).S.Attrs (IntKind.i64.wrap ((IntKind.i64.wrap ((IntKind.i64.wrap ((IntKind.i64.wrap ((IntKind.i64.wrap ((IntKind.i64.wrap ((IntKind.i64.wrap (s1.2 + 1)) + 1)) + 1)) + 1)) + 1)) + 1)) + 1))).1 + 1)) + 1)) + 1)) + 1)) + 1)) + 1)) + 1)) + 1)) + 1)) (IntKind.i64.wrap ((IntKind.i64.wrap ((IntKind.i64.wrap ((IntKind.i64.wrap ((IntKind.i64.wrap ((IntKind.i64.wrap ((IntKind.i64.wrap ((IntKind.i64.wrap ((IntKind.i64.wrap ((IntKind.i64.wrap ((laws_markAttrS (s1.1[i1]?.getD default).S.Attrs (IntKind.i64.wrap ((IntKind.i64.wrap ((IntKind.i64.wrap ((IntKind.i64.wrap ((IntKind.i64.wrap ((IntKind.i64.wrap ((IntKind.i64.wrap (s1.2 + 1)) + 1)) + 1)) + 1)) + 1)) + 1)) + 1))).1 + 1)) + 1)) + 1)) + 1)) + 1)) + 1)) + 1)) + 1)) + 1)) + 1)) (IntKind.i64.wrap ((IntKind.i64.wrap ((IntKind.i64.wrap ((IntKind.i64.wrap ((IntKind.i64.wrap ((IntKind.i64.wrap ((IntKind.i64.wrap ((IntKind.i64.wrap ((IntKind.i64.wrap ((IntKind.i64.wrap ((IntKind.i64.wrap ((laws_markAttrS (s1.1[i1]?.getD default).S.Attrs (IntKind.i64.wrap ((IntKind.i64.wrap ((IntKind.i64.wrap ((IntKind.i64.wrap ((IntKind.i64.wrap ((IntKind.i64.wrap ((IntKind.i64.wrap (s1.2 + 1)) + 1)) + 1)) + 1)) + 1)) + 1)) + 1))).1 + 1)) + 1)) + 1)) + 1)) + 1)) + 1)) + 1)) + 1)) + 1)) + 1)) + 1)))), (IntKind.i64.wrap ((IntKind.i64.wrap ((IntKind.i64.wrap ((IntKind.i64.wrap ((IntKind.i64.wrap ((IntKind.i64.wrap ((IntKind.i64.wrap ((IntKind.i64.wrap ((IntKind.i64.wrap ((IntKind.i64.wrap ((IntKind.i64.wrap ((IntKind.i64.wrap ((laws_markAttrS (s1.1[i1]?.getD default).S.Attrs (IntKind.i64.wrap ((IntKind.i64.wrap ((IntKind.i64.wrap ((IntKind.i64.wrap ((IntKind.i64.wrap ((IntKind.i64.wrap ((IntKind.i64.wrap (s1.2 + 1)) + 1)) + 1)) + 1)) + 1)) + 1)) + 1))).1 + 1)) + 1)) + 1)) + 1)) + 1)) + 1)) + 1)) + 1)) + 1)) + 1)) + 1)) + 1))))
def laws_markDeedS (p0 : (List Deed)) (p1 : Int) : (Int × (List Deed)) :=
  (Fin.get (fun s1 => (s1.2, s1.1)) (loopL laws_markDeedS_b1 0 (p0, p1) p0))
theorem c_laws_markDeedS (p0 : (List Deed)) (p1 : Int) : FnOk prog 13 [.tup [.one (.s true 20 (List.map (Deed.cells true) p0))], .one (.v (.int .i64 p1))] ⟨.one (.v (.int .i64 (laws_markDeedS p0 p1).1)), [.one (.s true 20 (List.map (Deed.cells true) ((laws_markDeedS p0 p1).2)))], [], false⟩ := by
  refine FnOk.introM (E := env) envOk wide func13 rfl (by kernel_rfl) rfl ?_
  have hg := laws_markDeedS.eq_1 p0 p1
  have hown : (∀ g : (Int × (List Deed)), AV.Own (AV.one (.v (.int .i64 g.1)))) ∧ (fun g : (Int × (List Deed)) => T.s true 20 (List.map (Deed.cells true) (g.2))) = _ := ⟨fun g => .v _, rfl⟩
  refine seqE ?_
  refine seqE ?_
  refine seqE ?_
  refine loopLI (fun _ s => (s.1).length = (p0).length) hg (by simp) [0] (fun x1 => [(1, .one (.v (.int .i64 x1.s.2))), (5, .one (.v (.int .i64 ((x1.i : Nat) : Int))))]) (fun x1 => [.dead, .new ⟨20, false, List.map (Deed.cells true) x1.s.1, 0⟩]) [none, some 1] ?_ (fun x1 => ?_)
  · exact ⟨rfl, ⟨rfl, rfl, ⟨rfl, rfl, rfl, rfl, by (first | rfl | omega | (dsimp only; omega) | (simp; done) | (simp; omega) | (simp [LstSt.init, LstSt.step, LstInv.init, CntSt.init, CntSt.step, CntInv.init, WhlSt.init, WhlSt.step]; done) | (simp [LstSt.init, LstSt.step, LstInv.init, CntSt.init, CntSt.step, CntInv.init, WhlSt.init, WhlSt.step]; omega))⟩, trivial⟩, ⟨⟨rfl, rfl, rfl⟩, trivial⟩, ⟨⟨rfl, rfl, rfl, rfl, by (first | rfl | omega | (dsimp only; omega) | (simp; done) | (simp; omega) | (simp [LstSt.init, LstSt.step, LstInv.init, CntSt.init, CntSt.step, CntInv.init, WhlSt.init, WhlSt.step]; done) | (simp [LstSt.init, LstSt.step, LstInv.init, CntSt.init, CntSt.step, CntInv.init, WhlSt.init, WhlSt.step]; omega))⟩, trivial⟩⟩
  have hI1 : (x1.s.1).length = (p0).length := by simpa using x1.hI
  refine seqE ?_
  refine seqE ?_
  refine lenE (k := (p0).length) (by simp) (fun hN1 => ?_)
  refine tstL (fun hi1 => ?_) (fun hi1 => ?_)
  · have hb1 := (x1.bdy hi1).trans (laws_markDeedS_b1.eq_1 ..)
    have hw1 := wrap_succ hi1 (by first | assumption | omega)
    refine seqE ?_
    refine seqE ?_
    refine andE (by (first | omega | (simp (disch := omega) only [wrap_small, mid_eq, List.length_map]; omega) | (simp; done) | (simp; omega) | (simp at *; omega) | (simp at *; done) | (simp_all; done) | (simp_all; omega))) ?_
    refine rowsE (Y := List.map (Deed.cells true) (List.set x1.s.1 x1.i (Deed.mk x1.s.2 (x1.s.1[x1.i]?.getD default).Task (x1.s.1[x1.i]?.getD default).S (x1.s.1[x1.i]?.getD default).Trace (x1.s.1[x1.i]?.getD default).Stamp (x1.s.1[x1.i]?.getD default).Code (x1.s.1[x1.i]?.getD default).Keep (x1.s.1[x1.i]?.getD default).Void (x1.s.1[x1.i]?.getD default).Took (x1.s.1[x1.i]?.getD default).N (x1.s.1[x1.i]?.getD default).Forgot (x1.s.1[x1.i]?.getD default).Now (x1.s.1[x1.i]?.getD default).Inv (x1.s.1[x1.i]?.getD default).Lin (x1.s.1[x1.i]?.getD default).Res))) (by exact setMapE (by simp) (fun a ha => by first | rfl | (simp only [ha, Option.getD_some]; rfl) | (obtain ⟨_, rfl⟩ := List.getElem?_eq_some_iff.1 ha; rfl) | (simp only [Pol.cells_eq]; rfl) | (simp only [ha, Option.getD_some, Pol.cells_eq]; rfl))) ?_
    refine seqE ?_
    refine seqE ?_
    refine andE (by (first | omega | (simp (disch := omega) only [wrap_small, mid_eq, List.length_map]; omega) | (simp; done) | (simp; omega) | (simp at *; omega) | (simp at *; done) | (simp_all; done) | (simp_all; omega))) ?_
    refine rowsE (Y := List.map (Deed.cells true) (List.set x1.s.1 x1.i (Deed.mk x1.s.2 (IntKind.i64.wrap (x1.s.2 + 1)) (x1.s.1[x1.i]?.getD default).S (x1.s.1[x1.i]?.getD default).Trace (x1.s.1[x1.i]?.getD default).Stamp (x1.s.1[x1.i]?.getD default).Code (x1.s.1[x1.i]?.getD default).Keep (x1.s.1[x1.i]?.getD default).Void (x1.s.1[x1.i]?.getD default).Took (x1.s.1[x1.i]?.getD default).N (x1.s.1[x1.i]?.getD default).Forgot (x1.s.1[x1.i]?.getD default).Now (x1.s.1[x1.i]?.getD default).Inv (x1.s.1[x1.i]?.getD default).Lin (x1.s.1[x1.i]?.getD default).Res))) (by exact setMapS (by simp) (by first | rfl | (simp only [ha, Option.getD_some]; rfl) | (obtain ⟨_, rfl⟩ := List.getElem?_eq_some_iff.1 ha; rfl) | (simp only [Pol.cells_eq]; rfl) | (simp only [ha, Option.getD_some, Pol.cells_eq]; rfl))) ?_
    refine seqE ?_
    refine seqE ?_
    refine andE (by (first | omega | (simp (disch := omega) only [wrap_small, mid_eq, List.length_map]; omega) | (simp; done) | (simp; omega) | (simp at *; omega) | (simp at *; done) | (simp_all; done) | (simp_all; omega))) ?_
    refine rowsE (Y := List.map (Deed.cells true) (List.set x1.s.1 x1.i (Deed.mk x1.s.2 (IntKind.i64.wrap (x1.s.2 + 1)) (Span.mk (IntKind.i64.wrap ((IntKind.i64.wrap (x1.s.2 + 1)) + 1)) (x1.s.1[x1.i]?.getD default).S.Id (x1.s.1[x1.i]?.getD default).S.Start (x1.s.1[x1.i]?.getD default).S.End (x1.s.1[x1.i]?.getD default).S.Err (x1.s.1[x1.i]?.getD default).S.Attrs) (x1.s.1[x1.i]?.getD default).Trace (x1.s.1[x1.i]?.getD default).Stamp (x1.s.1[x1.i]?.getD default).Code (x1.s.1[x1.i]?.getD default).Keep (x1.s.1[x1.i]?.getD default).Void (x1.s.1[x1.i]?.getD default).Took (x1.s.1[x1.i]?.getD default).N (x1.s.1[x1.i]?.getD default).Forgot (x1.s.1[x1.i]?.getD default).Now (x1.s.1[x1.i]?.getD default).Inv (x1.s.1[x1.i]?.getD default).Lin (x1.s.1[x1.i]?.getD default).Res))) (by exact setMapS (by simp) (by first | rfl | (simp only [ha, Option.getD_some]; rfl) | (obtain ⟨_, rfl⟩ := List.getElem?_eq_some_iff.1 ha; rfl) | (simp only [Pol.cells_eq]; rfl) | (simp only [ha, Option.getD_some, Pol.cells_eq]; rfl))) ?_
    refine seqE ?_
    refine seqE ?_
    refine andE (by (first | omega | (simp (disch := omega) only [wrap_small, mid_eq, List.length_map]; omega) | (simp; done) | (simp; omega) | (simp at *; omega) | (simp at *; done) | (simp_all; done) | (simp_all; omega))) ?_
    refine rowsE (Y := List.map (Deed.cells true) (List.set x1.s.1 x1.i (Deed.mk x1.s.2 (IntKind.i64.wrap (x1.s.2 + 1)) (Span.mk (IntKind.i64.wrap ((IntKind.i64.wrap (x1.s.2 + 1)) + 1)) (IntKind.i64.wrap ((IntKind.i64.wrap ((IntKind.i64.wrap (x1.s.2 + 1)) + 1)) + 1)) (x1.s.1[x1.i]?.getD default).S.Start (x1.s.1[x1.i]?.getD default).S.End (x1.s.1[x1.i]?.getD default).S.Err (x1.s.1[x1.i]?.getD default).S.Attrs) (x1.s.1[x1.i]?.getD default).Trace (x1.s.1[x1.i]?.getD default).Stamp (x1.s.1[x1.i]?.getD default).Code (x1.s.1[x1.i]?.getD default).Keep (x1.s.1[x1.i]?.getD default).Void (x1.s.1[x1.i]?.getD default).Took (x1.s.1[x1.i]?.getD default).N (x1.s.1[x1.i]?.getD default).Forgot (x1.s.1[x1.i]?.getD default).Now (x1.s.1[x1.i]?.getD default).Inv (x1.s.1[x1.i]?.getD default).Lin (x1.s.1[x1.i]?.getD default).Res))) (by exact setMapS (by simp) (by first | rfl | (simp only [ha, Option.getD_some]; rfl) | (obtain ⟨_, rfl⟩ := List.getElem?_eq_some_iff.1 ha; rfl) | (simp only [Pol.cells_eq]; rfl) | (simp only [ha, Option.getD_some, Pol.cells_eq]; rfl))) ?_
    refine seqE ?_
    refine seqE ?_
    refine andE (by (first | omega | (simp (disch := omega) only [wrap_small, mid_eq, List.length_map]; omega) | (simp; done) | (simp; omega) | (simp at *; omega) | (simp at *; done) | (simp_all; done) | (simp_all; omega))) ?_
    refine rowsE (Y := List.map (Deed.cells true) (List.set x1.s.1 x1.i (Deed.mk x1.s.2 (IntKind.i64.wrap (x1.s.2 + 1)) (Span.mk (IntKind.i64.wrap ((IntKind.i64.wrap (x1.s.2 + 1)) + 1)) (IntKind.i64.wrap ((IntKind.i64.wrap ((IntKind.i64.wrap (x1.s.2 + 1)) + 1)) + 1)) (IntKind.i64.wrap ((IntKind.i64.wrap ((IntKind.i64.wrap ((IntKind.i64.wrap (x1.s.2 + 1)) + 1)) + 1)) + 1)) (x1.s.1[x1.i]?.getD default).S.End (x1.s.1[x1.i]?.getD default).S.Err (x1.s.1[x1.i]?.getD default).S.Attrs) (x1.s.1[x1.i]?.getD default).Trace (x1.s.1[x1.i]?.getD default).Stamp (x1.s.1[x1.i]?.getD default).Code (x1.s.1[x1.i]?.getD default).Keep (x1.s.1[x1.i]?.getD default).Void (x1.s.1[x1.i]?.getD default).Took (x1.s.1[x1.i]?.getD default).N (x1.s.1[x1.i]?.getD default).Forgot (x1.s.1[x1.i]?.getD default).Now (x1.s.1[x1.i]?.getD default).Inv (x1.s.1[x1.i]?.getD default).Lin (x1.s.1[x1.i]?.getD default).Res))) (by exact setMapS (by simp) (by first | rfl | (simp only [ha, Option.getD_some]; rfl) | (obtain ⟨_, rfl⟩ := List.getElem?_eq_some_iff.1 ha; rfl) | (simp only [Pol.cells_eq]; rfl) | (simp only [ha, Option.getD_some, Pol.cells_eq]; rfl))) ?_
    refine seqE ?_
    refine seqE ?_
    refine andE (by (first | omega | (simp (disch := omega) only [wrap_small, mid_eq, List.length_map]; omega) | (simp; done) | (simp; omega) | (simp at *; omega) | (simp at *; done) | (simp_all; done) | (simp_all; omega))) ?_
    refine rowsE (Y := List.map (Deed.cells true) (List.set x1.s.1 x1.i (Deed.mk x1.s.2 (IntKind.i64.wrap (x1.s.2 + 1)) (Span.mk (IntKind.i64.wrap ((IntKind.i64.wrap (x1.s.2 + 1)) + 1)) (IntKind.i64.wrap ((IntKind.i64.wrap ((IntKind.i64.wrap (x1.s.2 + 1)) + 1)) + 1)) (IntKind.i64.wrap ((IntKind.i64.wrap ((IntKind.i64.wrap ((IntKind.i64.wrap (x1.s.2 + 1)) + 1)) + 1)) + 1)) (IntKind.i64.wrap ((IntKind.i64.wrap ((IntKind.i64.wrap ((IntKind.i64.wrap ((IntKind.i64.wrap (x1.s.2 + 1)) + 1)) + 1)) + 1)) + 1)) (x1.s.1[x1.i]?.getD default).S.Err (x1.s.1[x1.i]?.getD default).S.Attrs) (x1.s.1[x1.i]?.getD default).Trace (x1.s.1[x1.i]?.getD default).Stamp (x1.s.1[x1.i]?.getD default).Code (x1.s.1[x1.i]?.getD default).Keep (x1.s.1[x1.i]?.getD default).Void (x1.s.1[x1.i]?.getD default).Took (x1.s.1[x1.i]?.getD default).N (x1.s.1[x1.i]?.getD default).Forgot (x1.s.1[x1.i]?.getD default).Now (x1.s.1[x1.i]?.getD default).Inv (x1.s.1[x1.i]?.getD default).Lin (x1.s.1[x1.i]?.getD default).Res))) (by exact setMapS (by simp) (by first | rfl | (simp only [ha, Option.getD_some]; rfl) | (obtain ⟨_, rfl⟩ := List.getElem?_eq_some_iff.1 ha; rfl) | (simp only [Pol.cells_eq]; rfl) | (simp only [ha, Option.getD_some, Pol.cells_eq]; rfl))) ?_
    refine seqE ?_
    refine seqE ?_
    refine andE (by (first | omega | (simp (disch := omega) only [wrap_small, mid_eq, List.length_map]; omega) | (simp; done) | (simp; omega) | (simp at *; omega) | (simp at *; done) | (simp_all; done) | (simp_all; omega))) ?_
    refine andE (by (first | omega | (simp (disch := omega) only [wrap_small, mid_eq, List.length_map]; omega) | (simp; done) | (simp; omega) | (simp at *; omega) | (simp at *; done) | (simp_all; done) | (simp_all; omega))) ?_
    refine rowsE (Y := List.map (Deed.cells true) (List.set x1.s.1 x1.i (Deed.mk x1.s.2 (IntKind.i64.wrap (x1.s.2 + 1)) (Span.mk (IntKind.i64.wrap ((IntKind.i64.wrap (x1.s.2 + 1)) + 1)) (IntKind.i64.wrap ((IntKind.i64.wrap ((IntKind.i64.wrap (x1.s.2 + 1)) + 1)) + 1)) (IntKind.i64.wrap ((IntKind.i64.wrap ((IntKind.i64.wrap ((IntKind.i64.wrap (x1.s.2 + 1)) + 1)) + 1)) + 1)) (IntKind.i64.wrap ((IntKind.i64.wrap ((IntKind.i64.wrap ((IntKind.i64.wrap ((IntKind.i64.wrap (x1.s.2 + 1)) + 1)) + 1)) + 1)) + 1)) ((Int.tmod (IntKind.i64.wrap ((IntKind.i64.wrap ((IntKind.i64.wrap ((IntKind.i64.wrap ((IntKind.i64.wrap ((IntKind.i64.wrap (x1.s.2 + 1)) + 1)) + 1)) + 1)) + 1)) + 1)) 3) == 0) (x1.s.1[x1.i]?.getD default).S.Attrs) (x1.s.1[x1.i]?.getD default).Trace (x1.s.1[x1.i]?.getD default).Stamp (x1.s.1[x1.i]?.getD default).Code (x1.s.1[x1.i]?.getD default).Keep (x1.s.1[x1.i]?.getD default).Void (x1.s.1[x1.i]?.getD default).Took (x1.s.1[x1.i]?.getD default).N (x1.s.1[x1.i]?.getD default).Forgot (x1.s.1[x1.i]?.getD default).Now (x1.s.1[x1.i]?.getD default).Inv (x1.s.1[x1.i]?.getD default).Lin (x1.s.1[x1.i]?.getD default).Res))) (by exact setMapS (by simp) (by first | rfl | (simp only [ha, Option.getD_some]; rfl) | (obtain ⟨_, rfl⟩ := List.getElem?_eq_some_iff.1 ha; rfl) | (simp only [Pol.cells_eq]; rfl) | (simp only [ha, Option.getD_some, Pol.cells_eq]; rfl))) ?_
    refine seqE ?_
    refine seqE ?_
    refine andE (by (first | omega | (simp (disch := omega) only [wrap_small, mid_eq, List.length_map]; omega) | (simp; done) | (simp; omega) | (simp at *; omega) | (simp at *; done) | (simp_all; done) | (simp_all; omega))) ?_
    refine rowSetE (i := x1.i) (l := x1.s.1) (x := (Deed.mk x1.s.2 (IntKind.i64.wrap (x1.s.2 + 1)) (Span.mk (IntKind.i64.wrap ((IntKind.i64.wrap (x1.s.2 + 1)) + 1)) (IntKind.i64.wrap ((IntKind.i64.wrap ((IntKind.i64.wrap (x1.s.2 + 1)) + 1)) + 1)) (IntKind.i64.wrap ((IntKind.i64.wrap ((IntKind.i64.wrap ((IntKind.i64.wrap (x1.s.2 + 1)) + 1)) + 1)) + 1)) (IntKind.i64.wrap ((IntKind.i64.wrap ((IntKind.i64.wrap ((IntKind.i64.wrap ((IntKind.i64.wrap (x1.s.2 + 1)) + 1)) + 1)) + 1)) + 1)) ((Int.tmod (IntKind.i64.wrap ((IntKind.i64.wrap ((IntKind.i64.wrap ((IntKind.i64.wrap ((IntKind.i64.wrap ((IntKind.i64.wrap (x1.s.2 + 1)) + 1)) + 1)) + 1)) + 1)) + 1)) 3) == 0) (x1.s.1[x1.i]?.getD default).S.Attrs) (x1.s.1[x1.i]?.getD default).Trace (x1.s.1[x1.i]?.getD default).Stamp (x1.s.1[x1.i]?.getD default).Code (x1.s.1[x1.i]?.getD default).Keep (x1.s.1[x1.i]?.getD default).Void (x1.s.1[x1.i]?.getD default).Took (x1.s.1[x1.i]?.getD default).N (x1.s.1[x1.i]?.getD default).Forgot (x1.s.1[x1.i]?.getD default).Now (x1.s.1[x1.i]?.getD default).Inv (x1.s.1[x1.i]?.getD default).Lin (x1.s.1[x1.i]?.getD default).Res)) (by first | rfl | exact Nat.zero_add _ | simp) (fun _ => ?_)
    refine .inr ⟨0, ?_⟩
    refine rowSetE (i := x1.i) (l := x1.s.1) (x := (Deed.mk x1.s.2 (IntKind.i64.wrap (x1.s.2 + 1)) (Span.mk (IntKind.i64.wrap ((IntKind.i64.wrap (x1.s.2 + 1)) + 1)) (IntKind.i64.wrap ((IntKind.i64.wrap ((IntKind.i64.wrap (x1.s.2 + 1)) + 1)) + 1)) (IntKind.i64.wrap ((IntKind.i64.wrap ((IntKind.i64.wrap ((IntKind.i64.wrap (x1.s.2 + 1)) + 1)) + 1)) + 1)) (IntKind.i64.wrap ((IntKind.i64.wrap ((IntKind.i64.wrap ((IntKind.i64.wrap ((IntKind.i64.wrap (x1.s.2 + 1)) + 1)) + 1)) + 1)) + 1)) ((Int.tmod (IntKind.i64.wrap ((IntKind.i64.wrap ((IntKind.i64.wrap ((IntKind.i64.wrap ((IntKind.i64.wrap ((IntKind.i64.wrap (x1.s.2 + 1)) + 1)) + 1)) + 1)) + 1)) + 1)) 3) == 0) (x1.s.1[x1.i]?.getD default).S.Attrs) (x1.s.1[x1.i]?.getD default).Trace (x1.s.1[x1.i]?.getD default).Stamp (x1.s.1[x1.i]?.getD default).Code (x1.s.1[x1.i]?.getD default).Keep (x1.s.1[x1.i]?.getD default).Void (x1.s.1[x1.i]?.getD default).Took (x1.s.1[x1.i]?.getD default).N (x1.s.1[x1.i]?.getD default).Forgot (x1.s.1[x1.i]?.getD default).Now (x1.s.1[x1.i]?.getD default).Inv (x1.s.1[x1.i]?.getD default).Lin (x1.s.1[x1.i]?.getD default).Res)) (by first | rfl | exact Nat.zero_add _ | simp) (fun _ => ?_)
    refine ⟨_, _, _, c_laws_markAttrS (x1.s.1[x1.i]?.getD default).S.Attrs (IntKind.i64.wrap ((IntKind.i64.wrap ((IntKind.i64.wrap ((IntKind.i64.wrap ((IntKind.i64.wrap ((IntKind.i64.wrap ((IntKind.i64.wrap (x1.s.2 + 1)) + 1)) + 1)) + 1)) + 1)) + 1)) + 1)), (FzAs.same _), .inl ?_⟩
    refine rowsE (Y := List.map (Deed.cells true) (List.set x1.s.1 x1.i (Deed.mk x1.s.2 (IntKind.i64.wrap (x1.s.2 + 1)) (Span.mk (IntKind.i64.wrap ((IntKind.i64.wrap (x1.s.2 + 1)) + 1)) (IntKind.i64.wrap ((IntKind.i64.wrap ((IntKind.i64.wrap (x1.s.2 + 1)) + 1)) + 1)) (IntKind.i64.wrap ((IntKind.i64.wrap ((IntKind.i64.wrap ((IntKind.i64.wrap (x1.s.2 + 1)) + 1)) + 1)) + 1)) (IntKind.i64.wrap ((IntKind.i64.wrap ((IntKind.i64.wrap ((IntKind.i64.wrap ((IntKind.i64.wrap (x1.s.2 + 1)) + 1)) + 1)) + 1)) + 1)) ((Int.tmod (IntKind.i64.wrap ((IntKind.i64.wrap ((IntKind.i64.wrap ((IntKind.i64.wrap ((IntKind.i64.wrap ((IntKind.i64.wrap (x1.s.2 + 1)) + 1)) + 1)) + 1)) + 1)) + 1)) 3) == 0) (laws_markAttrS (x1.s.1[x1.i]?.getD default).S.Attrs (IntKind.i64.wrap ((IntKind.i64.wrap ((IntKind.i64.wrap ((IntKind.i64.wrap ((IntKind.i64.wrap ((IntKind.i64.wrap ((IntKind.i64.wrap (x1.s.2 + 1)) + 1)) + 1)) + 1)) + 1)) + 1)) + 1))).2) (x1.s.1[x1.i]?.getD default).Trace (x1.s.1[x1.i]?.getD default).Stamp (x1.s.1[x1.i]?.getD default).Code (x1.s.1[x1.i]?.getD default).Keep (x1.s.1[x1.i]?.getD default).Void (x1.s.1[x1.i]?.getD default).Took (x1.s.1[x1.i]?.getD default).N (x1.s.1[x1.i]?.getD default).Forgot (x1.s.1[x1.i]?.getD default).Now (x1.s.1[x1.i]?.getD default).Inv (x1.s.1[x1.i]?.getD default).Lin (x1.s.1[x1.i]?.getD default).Res))) (by exact setMapS (by simp) (by first | rfl | (simp only [ha, Option.getD_some]; rfl) | (obtain ⟨_, rfl⟩ := List.getElem?_eq_some_iff.1 ha; rfl) | (simp only [Pol.cells_eq]; rfl) | (simp only [ha, Option.getD_some, Pol.cells_eq]; rfl))) ?_
    refine litE (m := 3) rfl ?_
    refine seqE ?_
    refine andE (by (first | omega | (simp (disch := omega) only [wrap_small, mid_eq, List.length_map]; omega) | (simp; done) | (simp; omega) | (simp at *; omega) | (simp at *; done) | (simp_all; done) | (simp_all; omega))) ?_
    refine rowsE (Y := List.map (Deed.cells true) (List.set x1.s.1 x1.i (Deed.mk x1.s.2 (IntKind.i64.wrap (x1.s.2 + 1)) (Span.mk (IntKind.i64.wrap ((IntKind.i64.wrap (x1.s.2 + 1)) + 1)) (IntKind.i64.wrap ((IntKind.i64.wrap ((IntKind.i64.wrap (x1.s.2 + 1)) + 1)) + 1)) (IntKind.i64.wrap ((IntKind.i64.wrap ((IntKind.i64.wrap ((IntKind.i64.wrap (x1.s.2 + 1)) + 1)) + 1)) + 1)) (IntKind.i64.wrap ((IntKind.i64.wrap ((IntKind.i64.wrap ((IntKind.i64.wrap ((IntKind.i64.wrap (x1.s.2 + 1)) + 1)) + 1)) + 1)) + 1)) ((Int.tmod (IntKind.i64.wrap ((IntKind.i64.wrap ((IntKind.i64.wrap ((IntKind.i64.wrap ((IntKind.i64.wrap ((IntKind.i64.wrap (x1.s.2 + 1)) + 1)) + 1)) + 1)) + 1)) + 1)) 3) == 0) (laws_markAttrS (x1.s.1[x1.i]?.getD default).S.Attrs (IntKind.i64.wrap ((IntKind.i64.wrap ((IntKind.i64.wrap ((IntKind.i64.wrap ((IntKind.i64.wrap ((IntKind.i64.wrap ((IntKind.i64.wrap (x1.s.2 + 1)) + 1)) + 1)) + 1)) + 1)) + 1)) + 1))).2) (laws_markAttrS (x1.s.1[x1.i]?.getD default).S.Attrs (IntKind.i64.wrap ((IntKind.i64.wrap ((IntKind.i64.wrap ((IntKind.i64.wrap ((IntKind.i64.wrap ((IntKind.i64.wrap ((IntKind.i64.wrap (x1.s.2 + 1)) + 1)) + 1)) + 1)) + 1)) + 1)) + 1))).1 (x1.s.1[x1.i]?.getD default).Stamp (x1.s.1[x1.i]?.getD default).Code (x1.s.1[x1.i]?.getD default).Keep (x1.s.1[x1.i]?.getD default).Void (x1.s.1[x1.i]?.getD default).Took (x1.s.1[x1.i]?.getD default).N (x1.s.1[x1.i]?.getD default).Forgot (x1.s.1[x1.i]?.getD default).Now (x1.s.1[x1.i]?.getD default).Inv (x1.s.1[x1.i]?.getD default).Lin (x1.s.1[x1.i]?.getD default).Res))) (by exact setMapS (by simp) (by first | rfl | (simp only [ha, Option.getD_some]; rfl) | (obtain ⟨_, rfl⟩ := List.getElem?_eq_some_iff.1 ha; rfl) | (simp only [Pol.cells_eq]; rfl) | (simp only [ha, Option.getD_some, Pol.cells_eq]; rfl))) ?_
    refine seqE ?_
    refine seqE ?_
    refine andE (by (first | omega | (simp (disch := omega) only [wrap_small, mid_eq, List.length_map]; omega) | (simp; done) | (simp; omega) | (simp at *; omega) | (simp at *; done) | (simp_all; done) | (simp_all; omega))) ?_
    refine rowsE (Y := List.map (Deed.cells true) (List.set x1.s.1 x1.i (Deed.mk x1.s.2 (IntKind.i64.wrap (x1.s.2 + 1)) (Span.mk (IntKind.i64.wrap ((IntKind.i64.wrap (x1.s.2 + 1)) + 1)) (IntKind.i64.wrap ((IntKind.i64.wrap ((IntKind.i64.wrap (x1.s.2 + 1)) + 1)) + 1)) (IntKind.i64.wrap ((IntKind.i64.wrap ((IntKind.i64.wrap ((IntKind.i64.wrap (x1.s.2 + 1)) + 1)) + 1)) + 1)) (IntKind.i64.wrap ((IntKind.i64.wrap ((IntKind.i64.wrap ((IntKind.i64.wrap ((IntKind.i64.wrap (x1.s.2 + 1)) + 1)) + 1)) + 1)) + 1)) ((Int.tmod (IntKind.i64.wrap ((IntKind.i64.wrap ((IntKind.i64.wrap ((IntKind.i64.wrap ((IntKind.i64.wrap ((IntKind.i64.wrap (x1.s.2 + 1)) + 1)) + 1)) + 1)) + 1)) + 1)) 3) == 0) (laws_markAttrS (x1.s.1[x1.i]?.getD default).S.Attrs (IntKind.i64.wrap ((IntKind.i64.wrap ((IntKind.i64.wrap ((IntKind.i64.wrap ((IntKind.i64.wrap ((IntKind.i64.wrap ((IntKind.i64.wrap (x1.s.2 + 1)) + 1)) + 1)) + 1)) + 1)) + 1)) + 1))).2) (laws_markAttrS (x1.s.1[x1.i]?.getD default).S.Attrs (IntKind.i64.wrap ((IntKind.i64.wrap ((IntKind.i64.wrap ((IntKind.i64.wrap ((IntKind.i64.wrap ((IntKind.i64.wrap ((IntKind.i64.wrap (x1.s.2 + 1)) + 1)) + 1)) + 1)) + 1)) + 1)) + 1))).1 (IntKind.i64.wrap ((laws_markAttrS (x1.s.1[x1.i]?.getD default).S.Attrs (IntKind.i64.wrap ((IntKind.i64.wrap ((IntKind.i64.wrap ((IntKind.i64.wrap ((IntKind.i64.wrap ((IntKind.i64.wrap ((IntKind.i64.wrap (x1.s.2 + 1)) + 1)) + 1)) + 1)) + 1)) + 1)) + 1))).1 + 1)) (x1.s.1[x1.i]?.getD default).Code (x1.s.1[x1.i]?.getD default).Keep (x1.s.1[x1.i]?.getD default).Void (x1.s.1[x1.i]?.getD default).Took (x1.s.1[x1.i]?.getD default).N (x1.s.1[x1.i]?.getD default).Forgot (x1.s.1[x1.i]?.getD default).Now (x1.s.1[x1.i]?.getD default).Inv (x1.s.1[x1.i]?.getD default).Lin (x1.s.1[x1.i]?.getD default).Res))) (by exact setMapS (by simp) (by first | rfl | (simp only [ha, Option.getD_some]; rfl) | (obtain ⟨_, rfl⟩ := List.getElem?_eq_some_iff.1 ha; rfl) | (simp only [Pol.cells_eq]; rfl) | (simp only [ha, Option.getD_some, Pol.cells_eq]; rfl))) ?_
    refine seqE ?_
    refine seqE ?_
    refine andE (by (first | omega | (simp (disch := omega) only [wrap_small, mid_eq, List.length_map]; omega) | (simp; done) | (simp; omega) | (simp at *; omega) | (simp at *; done) | (simp_all; done) | (simp_all; omega))) ?_
    refine rowsE (Y := List.map (Deed.cells true) (List.set x1.s.1 x1.i (Deed.mk x1.s.2 (IntKind.i64.wrap (x1.s.2 + 1)) (Span.mk (IntKind.i64.wrap ((IntKind.i64.wrap (x1.s.2 + 1)) + 1)) (IntKind.i64.wrap ((IntKind.i64.wrap ((IntKind.i64.wrap (x1.s.2 + 1)) + 1)) + 1)) (IntKind.i64.wrap ((IntKind.i64.wrap ((IntKind.i64.wrap ((IntKind.i64.wrap (x1.s.2 + 1)) + 1)) + 1)) + 1)) (IntKind.i64.wrap ((IntKind.i64.wrap ((IntKind.i64.wrap ((IntKind.i64.wrap ((IntKind.i64.wrap (x1.s.2 + 1)) + 1)) + 1)) + 1)) + 1)) ((Int.tmod (IntKind.i64.wrap ((IntKind.i64.wrap ((IntKind.i64.wrap ((IntKind.i64.wrap ((IntKind.i64.wrap ((IntKind.i64.wrap (x1.s.2 + 1)) + 1)) + 1)) + 1)) + 1)) + 1)) 3) == 0) (laws_markAttrS (x1.s.1[x1.i]?.getD default).S.Attrs (IntKind.i64.wrap ((IntKind.i64.wrap ((IntKind.i64.wrap ((IntKind.i64.wrap ((IntKind.i64.wrap ((IntKind.i64.wrap ((IntKind.i64.wrap (x1.s.2 + 1)) + 1)) + 1)) + 1)) + 1)) + 1)) + 1))).2) (laws_markAttrS (x1.s.1[x1.i]?.getD default).S.Attrs (IntKind.i64.wrap ((IntKind.i64.wrap ((IntKind.i64.wrap ((IntKind.i64.wrap ((IntKind.i64.wrap ((IntKind.i64.wrap ((IntKind.i64.wrap (x1.s.2 + 1)) + 1)) + 1)) + 1)) + 1)) + 1)) + 1))).1 (IntKind.i64.wrap ((laws_markAttrS (x1.s.1[x1.i]?.getD default).S.Attrs (IntKind.i64.wrap ((IntKind.i64.wrap ((IntKind.i64.wrap ((IntKind.i64.wrap ((IntKind.i64.wrap ((IntKind.i64.wrap ((IntKind.i64.wrap (x1.s.2 + 1)) + 1)) + 1)) + 1)) + 1)) + 1)) + 1))).1 + 1)) (IntKind.i64.wrap ((IntKind.i64.wrap ((laws_markAttrS (x1.s.1[x1.i]?.getD default).S.Attrs (IntKind.i64.wrap ((IntKind.i64.wrap ((IntKind.i64.wrap ((IntKind.i64.wrap ((IntKind.i64.wrap ((IntKind.i64.wrap ((IntKind.i64.wrap (x1.s.2 + 1)) + 1)) + 1)) + 1)) + 1)) + 1)) + 1))).1 + 1)) + 1)) (x1.s.1[x1.i]?.getD default).Keep (x1.s.1[x1.i]?.getD default).Void (x1.s.1[x1.i]?.getD default).Took (x1.s.1[x1.i]?.getD default).N (x1.s.1[x1.i]?.getD default).Forgot (x1.s.1[x1.i]?.getD default).Now (x1.s.1[x1.i]?.getD default).Inv (x1.s.1[x1.i]?.getD default).Lin (x1.s.1[x1.i]?.getD default).Res))) (by exact setMapS (by simp) (by first | rfl | (simp only [ha, Option.getD_some]; rfl) | (obtain ⟨_, rfl⟩ := List.getElem?_eq_some_iff.1 ha; rfl) | (simp only [Pol.cells_eq]; rfl) | (simp only [ha, Option.getD_some, Pol.cells_eq]; rfl))) ?_
    refine seqE ?_
    refine seqE ?_
    refine andE (by (first | omega | (simp (disch := omega) only [wrap_small, mid_eq, List.length_map]; omega) | (simp; done) | (simp; omega) | (simp at *; omega) | (simp at *; done) | (simp_all; done) | (simp_all; omega))) ?_
    refine andE (by (first | omega | (simp (disch := omega) only [wrap_small, mid_eq, List.length_map]; omega) | (simp; done) | (simp; omega) | (simp at *; omega) | (simp at *; done) | (simp_all; done) | (simp_all; omega))) ?_
    refine rowsE (Y := List.map (Deed.cells true) (List.set x1.s.1 x1.i (Deed.mk x1.s.2 (IntKind.i64.wrap (x1.s.2 + 1)) (Span.mk (IntKind.i64.wrap ((IntKind.i64.wrap (x1.s.2 + 1)) + 1)) (IntKind.i64.wrap ((IntKind.i64.wrap ((IntKind.i64.wrap (x1.s.2 + 1)) + 1)) + 1)) (IntKind.i64.wrap ((IntKind.i64.wrap ((IntKind.i64.wrap ((IntKind.i64.wrap (x1.s.2 + 1)) + 1)) + 1)) + 1)) (IntKind.i64.wrap ((IntKind.i64.wrap ((IntKind.i64.wrap ((IntKind.i64.wrap ((IntKind.i64.wrap (x1.s.2 + 1)) + 1)) + 1)) + 1)) + 1)) ((Int.tmod (IntKind.i64.wrap ((IntKind.i64.wrap ((IntKind.i64.wrap ((IntKind.i64.wrap ((IntKind.i64.wrap ((IntKind.i64.wrap (x1.s.2 + 1)) + 1)) + 1)) + 1)) + 1)) + 1)) 3) == 0) (laws_markAttrS (x1.s.1[x1.i]?.getD default).S.Attrs (IntKind.i64.wrap ((IntKind.i64.wrap ((IntKind.i64.wrap ((IntKind.i64.wrap ((IntKind.i64.wrap ((IntKind.i64.wrap ((IntKind.i64.wrap (x1.s.2 + 1)) + 1)) + 1)) + 1)) + 1)) + 1)) + 1))).2) (laws_markAttrS (x1.s.1[x1.i]?.getD default).S.Attrs (IntKind.i64.wrap ((IntKind.i64.wrap ((IntKind.i64.wrap ((IntKind.i64.wrap ((IntKind.i64.wrap ((IntKind.i64.wrap ((IntKind.i64.wrap (x1.s.2 + 1)) + 1)) + 1)) + 1)) + 1)) + 1)) + 1))).1 (IntKind.i64.wrap ((laws_markAttrS (x1.s.1[x1.i]?.getD default).S.Attrs (IntKind.i64.wrap ((IntKind.i64.wrap ((IntKind.i64.wrap ((IntKind.i64.wrap ((IntKind.i64.wrap ((IntKind.i64.wrap ((IntKind.i64.wrap (x1.s.2 + 1)) + 1)) + 1)) + 1)) + 1)) + 1)) + 1))).1 + 1)) (IntKind.i64.wrap ((IntKind.i64.wrap ((laws_markAttrS (x1.s.1[x1.i]?.getD default).S.Attrs (IntKind.i64.wrap ((IntKind.i64.wrap ((IntKind.i64.wrap ((IntKind.i64.wrap ((IntKind.i64.wrap ((IntKind.i64.wrap ((IntKind.i64.wrap (x1.s.2 + 1)) + 1)) + 1)) + 1)) + 1)) + 1)) + 1))).1 + 1)) + 1)) ((Int.tmod (IntKind.i64.wrap ((IntKind.i64.wrap ((IntKind.i64.wrap ((laws_markAttrS (x1.s.1[x1.i]?.getD default).S.Attrs (IntKind.i64.wrap ((IntKind.i64.wrap ((IntKind.i64.wrap ((IntKind.i64.wrap ((IntKind.i64.wrap ((IntKind.i64.wrap ((IntKind.i64.wrap (x1.s.2 + 1)) + 1)) + 1)) + 1)) + 1)) + 1)) + 1))).1 + 1)) + 1)) + 1)) 3) == 0) (x1.s.1[x1.i]?.getD default).Void (x1.s.1[x1.i]?.getD default).Took (x1.s.1[x1.i]?.getD default).N (x1.s.1[x1.i]?.getD default).Forgot (x1.s.1[x1.i]?.getD default).Now (x1.s.1[x1.i]?.getD default).Inv (x1.s.1[x1.i]?.getD default).Lin (x1.s.1[x1.i]?.getD default).Res))) (by exact setMapS (by simp) (by first | rfl | (simp only [ha, Option.getD_some]; rfl) | (obtain ⟨_, rfl⟩ := List.getElem?_eq_some_iff.1 ha; rfl) | (simp only [Pol.cells_eq]; rfl) | (simp only [ha, Option.getD_some, Pol.cells_eq]; rfl))) ?_
    refine seqE ?_
    refine seqE ?_
    refine andE (by (first | omega | (simp (disch := omega) only [wrap_small, mid_eq, List.length_map]; omega) | (simp; done) | (simp; omega) | (simp at *; omega) | (simp at *; done) | (simp_all; done) | (simp_all; omega))) ?_
    refine andE (by (first | omega | (simp (disch := omega) only [wrap_small, mid_eq, List.length_map]; omega) | (simp; done) | (simp; omega) | (simp at *; omega) | (simp at *; done) | (simp_all; done) | (simp_all; omega))) ?_
    refine rowsE (Y := List.map (Deed.cells true) (List.set x1.s.1 x1.i (Deed.mk x1.s.2 (IntKind.i64.wrap (x1.s.2 + 1)) (Span.mk (IntKind.i64.wrap ((IntKind.i64.wrap (x1.s.2 + 1)) + 1)) (IntKind.i64.wrap ((IntKind.i64.wrap ((IntKind.i64.wrap (x1.s.2 + 1)) + 1)) + 1)) (IntKind.i64.wrap ((IntKind.i64.wrap ((IntKind.i64.wrap ((IntKind.i64.wrap (x1.s.2 + 1)) + 1)) + 1)) + 1)) (IntKind.i64.wrap ((IntKind.i64.wrap ((IntKind.i64.wrap ((IntKind.i64.wrap ((IntKind.i64.wrap (x1.s.2 + 1)) + 1)) + 1)) + 1)) + 1)) ((Int.tmod (IntKind.i64.wrap ((IntKind.i64.wrap ((IntKind.i64.wrap ((IntKind.i64.wrap ((IntKind.i64.wrap ((IntKind.i64.wrap (x1.s.2 + 1)) + 1)) + 1)) + 1)) + 1)) + 1)) 3) == 0) (laws_markAttrS (x1.s.1[x1.i]?.getD default).S.Attrs (IntKind.i64.wrap ((IntKind.i64.wrap ((IntKind.i64.wrap ((IntKind.i64.wrap ((IntKind.i64.wrap ((IntKind.i64.wrap ((IntKind.i64.wrap (x1.s.2 + 1)) + 1)) + 1)) + 1)) + 1)) + 1)) + 1))).2) (laws_markAttrS (x1.s.1[x1.i]?.getD default).S.Attrs (IntKind.i64.wrap ((IntKind.i64.wrap ((IntKind.i64.wrap ((IntKind.i64.wrap ((IntKind.i64.wrap ((IntKind.i64.wrap ((IntKind.i64.wrap (x1.s.2 + 1)) + 1)) + 1)) + 1)) + 1)) + 1)) + 1))).1 (IntKind.i64.wrap ((laws_markAttrS (x1.s.1[x1.i]?.getD default).S.Attrs (IntKind.i64.wrap ((IntKind.i64.wrap ((IntKind.i64.wrap ((IntKind.i64.wrap ((IntKind.i64.wrap ((IntKind.i64.wrap ((IntKind.i64.wrap (x1.s.2 + 1)) + 1)) + 1)) + 1)) + 1)) + 1)) + 1))).1 + 1)) (IntKind.i64.wrap ((IntKind.i64.wrap ((laws_markAttrS (x1.s.1[x1.i]?.getD default).S.Attrs (IntKind.i64.wrap ((IntKind.i64.wrap ((IntKind.i64.wrap ((IntKind.i64.wrap ((IntKind.i64.wrap ((IntKind.i64.wrap ((IntKind.i64.wrap (x1.s.2 + 1)) + 1)) + 1)) + 1)) + 1)) + 1)) + 1))).1 + 1)) + 1)) ((Int.tmod (IntKind.i64.wrap ((IntKind.i64.wrap ((IntKind.i64.wrap ((laws_markAttrS (x1.s.1[x1.i]?.getD default).S.Attrs (IntKind.i64.wrap ((IntKind.i64.wrap ((IntKind.i64.wrap ((IntKind.i64.wrap ((IntKind.i64.wrap ((IntKind.i64.wrap ((IntKind.i64.wrap (x1.s.2 + 1)) + 1)) + 1)) + 1)) + 1)) + 1)) + 1))).1 + 1)) + 1)) + 1)) 3) == 0) ((Int.tmod (IntKind.i64.wrap ((IntKind.i64.wrap ((IntKind.i64.wrap ((IntKind.i64.wrap ((laws_markAttrS (x1.s.1[x1.i]?.getD default).S.Attrs (IntKind.i64.wrap ((IntKind.i64.wrap ((IntKind.i64.wrap ((IntKind.i64.wrap ((IntKind.i64.wrap ((IntKind.i64.wrap ((IntKind.i64.wrap (x1.s.2 + 1)) + 1)) + 1)) + 1)) + 1)) + 1)) + 1))).1 + 1)) + 1)) + 1)) + 1)) 3) == 0) (x1.s.1[x1.i]?.getD default).Took (x1.s.1[x1.i]?.getD default).N (x1.s.1[x1.i]?.getD default).Forgot (x1.s.1[x1.i]?.getD default).Now (x1.s.1[x1.i]?.getD default).Inv (x1.s.1[x1.i]?.getD default).Lin (x1.s.1[x1.i]?.getD default).Res))) (by exact setMapS (by simp) (by first | rfl | (simp only [ha, Option.getD_some]; rfl) | (obtain ⟨_, rfl⟩ := List.getElem?_eq_some_iff.1 ha; rfl) | (simp only [Pol.cells_eq]; rfl) | (simp only [ha, Option.getD_some, Pol.cells_eq]; rfl))) ?_
    refine seqE ?_
    refine seqE ?_
    refine andE (by (first | omega | (simp (disch := omega) only [wrap_small, mid_eq, List.length_map]; omega) | (simp; done) | (simp; omega) | (simp at *; omega) | (simp at *; done) | (simp_all; done) | (simp_all; omega))) ?_
    refine rowsE (Y := List.map (Deed.cells true) (List.set x1.s.1 x1.i (Deed.mk x1.s.2 (IntKind.i64.wrap (x1.s.2 + 1)) (Span.mk (IntKind.i64.wrap ((IntKind.i64.wrap (x1.s.2 + 1)) + 1)) (IntKind.i64.wrap ((IntKind.i64.wrap ((IntKind.i64.wrap (x1.s.2 + 1)) + 1)) + 1)) (IntKind.i64.wrap ((IntKind.i64.wrap ((IntKind.i64.wrap ((IntKind.i64.wrap (x1.s.2 + 1)) + 1)) + 1)) + 1)) (IntKind.i64.wrap ((IntKind.i64.wrap ((IntKind.i64.wrap ((IntKind.i64.wrap ((IntKind.i64.wrap (x1.s.2 + 1)) + 1)) + 1)) + 1)) + 1)) ((Int.tmod (IntKind.i64.wrap ((IntKind.i64.wrap ((IntKind.i64.wrap ((IntKind.i64.wrap ((IntKind.i64.wrap ((IntKind.i64.wrap (x1.s.2 + 1)) + 1)) + 1)) + 1)) + 1)) + 1)) 3) == 0) (laws_markAttrS (x1.s.1[x1.i]?.getD default).S.Attrs (IntKind.i64.wrap ((IntKind.i64.wrap ((IntKind.i64.wrap ((IntKind.i64.wrap ((IntKind.i64.wrap ((IntKind.i64.wrap ((IntKind.i64.wrap (x1.s.2 + 1)) + 1)) + 1)) + 1)) + 1)) + 1)) + 1))).2) (laws_markAttrS (x1.s.1[x1.i]?.getD default).S.Attrs (IntKind.i64.wrap ((IntKind.i64.wrap ((IntKind.i64.wrap ((IntKind.i64.wrap ((IntKind.i64.wrap ((IntKind.i64.wrap ((IntKind.i64.wrap (x1.s.2 + 1)) + 1)) + 1)) + 1)) + 1)) + 1)) + 1))).1 (IntKind.i64.wrap ((laws_markAttrS (x1.s.1[x1.i]?.getD default).S.Attrs (IntKind.i64.wrap ((IntKind.i64.wrap ((IntKind.i64.wrap ((IntKind.i64.wrap ((IntKind.i64.wrap ((IntKind.i64.wrap ((IntKind.i64.wrap (x1.s.2 + 1)) + 1)) + 1)) + 1)) + 1)) + 1)) + 1))).1 + 1)) (IntKind.i64.wrap ((IntKind.i64.wrap ((laws_markAttrS (x1.s.1[x1.i]?.getD default).S.Attrs (IntKind.i64.wrap ((IntKind.i64.wrap ((IntKind.i64.wrap ((IntKind.i64.wrap ((IntKind.i64.wrap ((IntKind.i64.wrap ((IntKind.i64.wrap (x1.s.2 + 1)) + 1)) + 1)) + 1)) + 1)) + 1)) + 1))).1 + 1)) + 1)) ((Int.tmod (IntKind.i64.wrap ((IntKind.i64.wrap ((IntKind.i64.wrap ((laws_markAttrS (x1.s.1[x1.i]?.getD default).S.Attrs (IntKind.i64.wrap ((IntKind.i64.wrap ((IntKind.i64.wrap ((IntKind.i64.wrap ((IntKind.i64.wrap ((IntKind.i64.wrap ((IntKind.i64.wrap (x1.s.2 + 1)) + 1)) + 1)) + 1)) + 1)) + 1)) + 1))).1 + 1)) + 1)) + 1)) 3) == 0) ((Int.tmod (IntKind.i64.wrap ((IntKind.i64.wrap ((IntKind.i64.wrap ((IntKind.i64.wrap ((laws_markAttrS (x1.s.1[x1.i]?.getD default).S.Attrs (IntKind.i64.wrap ((IntKind.i64.wrap ((IntKind.i64.wrap ((IntKind.i64.wrap ((IntKind.i64.wrap ((IntKind.i64.wrap ((IntKind.i64.wrap (x1.s.2 + 1)) + 1)) + 1)) + 1)) + 1)) + 1)) + 1))).1 + 1)) + 1)) + 1)) + 1)) 3) == 0) (IntKind.i64.wrap ((IntKind.i64.wrap ((IntKind.i64.wrap ((IntKind.i64.wrap ((IntKind.i64.wrap ((laws_markAttrS (x1.s.1[x1.i]?.getD default).S.Attrs (IntKind.i64.wrap ((IntKind.i64.wrap ((IntKind.i64.wrap ((IntKind.i64.wrap ((IntKind.i64.wrap ((IntKind.i64.wrap ((IntKind.i64.wrap (x1.s.2 + 1)) + 1)) + 1)) + 1)) + 1)) + 1)) + 1))).1 + 1)) + 1)) + 1)) + 1)) + 1)) (x1.s.1[x1.i]?.getD default).N (x1.s.1[x1.i]?.getD default).Forgot (x1.s.1[x1.i]?.getD default).Now (x1.s.1[x1.i]?.getD default).Inv (x1.s.1[x1.i]?.getD default).Lin (x1.s.1[x1.i]?.getD default).Res))) (by exact setMapS (by simp) (by first | rfl | (simp only [ha, Option.getD_some]; rfl) | (obtain ⟨_, rfl⟩ := List.getElem?_eq_some_iff.1 ha; rfl) | (simp only [Pol.cells_eq]; rfl) | (simp only [ha, Option.getD_some, Pol.cells_eq]; rfl))) ?_
    refine seqE ?_
    refine seqE ?_
    refine andE (by (first | omega | (simp (disch := omega) only [wrap_small, mid_eq, List.length_map]; omega) | (simp; done) | (simp; omega) | (simp at *; omega) | (simp at *; done) | (simp_all; done) | (simp_all; omega))) ?_
    refine rowsE (Y := List.map (Deed.cells true) (List.set x1.s.1 x1.i (Deed.mk x1.s.2 (IntKind.i64.wrap (x1.s.2 + 1)) (Span.mk (IntKind.i64.wrap ((IntKind.i64.wrap (x1.s.2 + 1)) + 1)) (IntKind.i64.wrap ((IntKind.i64.wrap ((IntKind.i64.wrap (x1.s.2 + 1)) + 1)) + 1)) (IntKind.i64.wrap ((IntKind.i64.wrap ((IntKind.i64.wrap ((IntKind.i64.wrap (x1.s.2 + 1)) + 1)) + 1)) + 1)) (IntKind.i64.wrap ((IntKind.i64.wrap ((IntKind.i64.wrap ((IntKind.i64.wrap ((IntKind.i64.wrap (x1.s.2 + 1)) + 1)) + 1)) + 1)) + 1)) ((Int.tmod (IntKind.i64.wrap ((IntKind.i64.wrap ((IntKind.i64.wrap ((IntKind.i64.wrap ((IntKind.i64.wrap ((IntKind.i64.wrap (x1.s.2 + 1)) + 1)) + 1)) + 1)) + 1)) + 1)) 3) == 0) (laws_markAttrS (x1.s.1[x1.i]?.getD default).S.Attrs (IntKind.i64.wrap ((IntKind.i64.wrap ((IntKind.i64.wrap ((IntKind.i64.wrap ((IntKind.i64.wrap ((IntKind.i64.wrap ((IntKind.i64.wrap (x1.s.2 + 1)) + 1)) + 1)) + 1)) + 1)) + 1)) + 1))).2) (laws_markAttrS (x1.s.1[x1.i]?.getD default).S.Attrs (IntKind.i64.wrap ((IntKind.i64.wrap ((IntKind.i64.wrap ((IntKind.i64.wrap ((IntKind.i64.wrap ((IntKind.i64.wrap ((IntKind.i64.wrap (x1.s.2 + 1)) + 1)) + 1)) + 1)) + 1)) + 1)) + 1))).1 (IntKind.i64.wrap ((laws_markAttrS (x1.s.1[x1.i]?.getD default).S.Attrs (IntKind.i64.wrap ((IntKind.i64.wrap ((IntKind.i64.wrap ((IntKind.i64.wrap ((IntKind.i64.wrap ((IntKind.i64.wrap ((IntKind.i64.wrap (x1.s.2 + 1)) + 1)) + 1)) + 1)) + 1)) + 1)) + 1))).1 + 1)) (IntKind.i64.wrap ((IntKind.i64.wrap ((laws_markAttrS (x1.s.1[x1.i]?.getD default).S.Attrs (IntKind.i64.wrap ((IntKind.i64.wrap ((IntKind.i64.wrap ((IntKind.i64.wrap ((IntKind.i64.wrap ((IntKind.i64.wrap ((IntKind.i64.wrap (x1.s.2 + 1)) + 1)) + 1)) + 1)) + 1)) + 1)) + 1))).1 + 1)) + 1)) ((Int.tmod (IntKind.i64.wrap ((IntKind.i64.wrap ((IntKind.i64.wrap ((laws_markAttrS (x1.s.1[x1.i]?.getD default).S.Attrs (IntKind.i64.wrap ((IntKind.i64.wrap ((IntKind.i64.wrap ((IntKind.i64.wrap ((IntKind.i64.wrap ((IntKind.i64.wrap ((IntKind.i64.wrap (x1.s.2 + 1)) + 1)) + 1)) + 1)) + 1)) + 1)) + 1))).1 + 1)) + 1)) + 1)) 3) == 0) ((Int.tmod (IntKind.i64.wrap ((IntKind.i64.wrap ((IntKind.i64.wrap ((IntKind.i64.wrap ((laws_markAttrS (x1.s.1[x1.i]?.getD default).S.Attrs (IntKind.i64.wrap ((IntKind.i64.wrap ((IntKind.i64.wrap ((IntKind.i64.wrap ((IntKind.i64.wrap ((IntKind.i64.wrap ((IntKind.i64.wrap (x1.s.2 + 1)) + 1)) + 1)) + 1)) + 1)) + 1)) + 1))).1 + 1)) + 1)) + 1)) + 1)) 3) == 0) (IntKind.i64.wrap ((IntKind.i64.wrap ((IntKind.i64.wrap ((IntKind.i64.wrap ((IntKind.i64.wrap ((laws_markAttrS (x1.s.1[x1.i]?.getD default).S.Attrs (IntKind.i64.wrap ((IntKind.i64.wrap ((IntKind.i64.wrap ((IntKind.i64.wrap ((IntKind.i64.wrap ((IntKind.i64.wrap ((IntKind.i64.wrap (x1.s.2 + 1)) + 1)) + 1)) + 1)) + 1)) + 1)) + 1))).1 + 1)) + 1)) + 1)) + 1)) + 1)) (IntKind.i64.wrap ((IntKind.i64.wrap ((IntKind.i64.wrap ((IntKind.i64.wrap ((IntKind.i64.wrap ((IntKind.i64.wrap ((laws_markAttrS (x1.s.1[x1.i]?.getD default).S.Attrs (IntKind.i64.wrap ((IntKind.i64.wrap ((IntKind.i64.wrap ((IntKind.i64.wrap ((IntKind.i64.wrap ((IntKind.i64.wrap ((IntKind.i64.wrap (x1.s.2 + 1)) + 1)) + 1)) + 1)) + 1)) + 1)) + 1))).1 + 1)) + 1)) + 1)) + 1)) + 1)) + 1)) (x1.s.1[x1.i]?.getD default).Forgot (x1.s.1[x1.i]?.getD default).Now (x1.s.1[x1.i]?.getD default).Inv (x1.s.1[x1.i]?.getD default).Lin (x1.s.1[x1.i]?.getD default).Res))) (by exact setMapS (by simp) (by first | rfl | (simp only [ha, Option.getD_some]; rfl) | (obtain ⟨_, rfl⟩ := List.getElem?_eq_some_iff.1 ha; rfl) | (simp only [Pol.cells_eq]; rfl) | (simp only [ha, Option.getD_some, Pol.cells_eq]; rfl))) ?_
    refine seqE ?_
    refine seqE ?_
    refine andE (by (first | omega | (simp (disch := omega) only [wrap_small, mid_eq, List.length_map]; omega) | (simp; done) | (simp; omega) | (simp at *; omega) | (simp at *; done) | (simp_all; done) | (simp_all; omega))) ?_
    refine rowsE (Y := List.map (Deed.cells true) (List.set x1.s.1 x1.i (Deed.mk x1.s.2 (IntKind.i64.wrap (x1.s.2 + 1)) (Span.mk (IntKind.i64.wrap ((IntKind.i64.wrap (x1.s.2 + 1)) + 1)) (IntKind.i64.wrap ((IntKind.i64.wrap ((IntKind.i64.wrap (x1.s.2 + 1)) + 1)) + 1)) (IntKind.i64.wrap ((IntKind.i64.wrap ((IntKind.i64.wrap ((IntKind.i64.wrap (x1.s.2 + 1)) + 1)) + 1)) + 1)) (IntKind.i64.wrap ((IntKind.i64.wrap ((IntKind.i64.wrap ((IntKind.i64.wrap ((IntKind.i64.wrap (x1.s.2 + 1)) + 1)) + 1)) + 1)) + 1)) ((Int.tmod (IntKind.i64.wrap ((IntKind.i64.wrap ((IntKind.i64.wrap ((IntKind.i64.wrap ((IntKind.i64.wrap ((IntKind.i64.wrap (x1.s.2 + 1)) + 1)) + 1)) + 1)) + 1)) + 1)) 3) == 0) (laws_markAttrS (x1.s.1[x1.i]?.getD default).S.Attrs (IntKind.i64.wrap ((IntKind.i64.wrap ((IntKind.i64.wrap ((IntKind.i64.wrap ((IntKind.i64.wrap ((IntKind.i64.wrap ((IntKind.i64.wrap (x1.s.2 + 1)) + 1)) + 1)) + 1)) + 1)) + 1)) + 1))).2) (laws_markAttrS (x1.s.1[x1.i]?.getD default).S.Attrs (IntKind.i64.wrap ((IntKind.i64.wrap ((IntKind.i64.wrap ((IntKind.i64.wrap ((IntKind.i64.wrap ((IntKind.i64.wrap ((IntKind.i64.wrap (x1.s.2 + 1)) + 1)) + 1)) + 1)) + 1)) + 1)) + 1))).1 (IntKind.i64.wrap ((laws_markAttrS (x1.s.1[x1.i]?.getD default).S.Attrs (IntKind.i64.wrap ((IntKind.i64.wrap ((IntKind.i64.wrap ((IntKind.i64.wrap ((IntKind.i64.wrap ((IntKind.i64.wrap ((IntKind.i64.wrap (x1.s.2 + 1)) + 1)) + 1)) + 1)) + 1)) + 1)) + 1))).1 + 1)) (IntKind.i64.wrap ((IntKind.i64.wrap ((laws_markAttrS (x1.s.1[x1.i]?.getD default).S.Attrs (IntKind.i64.wrap ((IntKind.i64.wrap ((IntKind.i64.wrap ((IntKind.i64.wrap ((IntKind.i64.wrap ((IntKind.i64.wrap ((IntKind.i64.wrap (x1.s.2 + 1)) + 1)) + 1)) + 1)) + 1)) + 1)) + 1))).1 + 1)) + 1)) ((Int.tmod (IntKind.i64.wrap ((IntKind.i64.wrap ((IntKind.i64.wrap ((laws_markAttrS (x1.s.1[x1.i]?.getD default).S.Attrs (IntKind.i64.wrap ((IntKind.i64.wrap ((IntKind.i64.wrap ((IntKind.i64.wrap ((IntKind.i64.wrap ((IntKind.i64.wrap ((IntKind.i64.wrap (x1.s.2 + 1)) + 1)) + 1)) + 1)) + 1)) + 1)) + 1))).1 + 1)) + 1)) + 1)) 3) == 0) ((Int.tmod (IntKind.i64.wrap ((IntKind.i64.wrap ((IntKind.i64.wrap ((IntKind.i64.wrap ((laws_markAttrS (x1.s.1[x1.i]?.getD default).S.Attrs (IntKind.i64.wrap ((IntKind.i64.wrap ((IntKind.i64.wrap ((IntKind.i64.wrap ((IntKind.i64.wrap ((IntKind.i64.wrap ((IntKind.i64.wrap (x1.s.2 + 1)) + 1)) + 1)) + 1)) + 1)) + 1)) + 1))).1 + 1)) + 1)) + 1)) + 1)) 3) == 0) (IntKind.i64.wrap ((IntKind.i64.wrap ((IntKind.i64.wrap ((IntKind.i64.wrap ((IntKind.i64.wrap ((laws_markAttrS (x1.s.1[x1.i]?.getD default).S.Attrs (IntKind.i64.wrap ((IntKind.i64.wrap ((IntKind.i64.wrap ((IntKind.i64.wrap ((IntKind.i64.wrap ((IntKind.i64.wrap ((IntKind.i64.wrap (x1.s.2 + 1)) + 1)) + 1)) + 1)) + 1)) + 1)) + 1))).1 + 1)) + 1)) + 1)) + 1)) + 1)) (IntKind.i64.wrap ((IntKind.i64.wrap ((IntKind.i64.wrap ((IntKind.i64.wrap ((IntKind.i64.wrap ((IntKind.i64.wrap ((laws_markAttrS (x1.s.1[x1.i]?.getD default).S.Attrs (IntKind.i64.wrap ((IntKind.i64.wrap ((IntKind.i64.wrap ((IntKind.i64.wrap ((IntKind.i64.wrap ((IntKind.i64.wrap ((IntKind.i64.wrap (x1.s.2 + 1)) + 1)) + 1)) + 1)) + 1)) + 1)) + 1))).1 + 1)) + 1)) + 1)) + 1)) + 1)) + 1)) (IntKind.i64.wrap ((IntKind.i64.wrap ((IntKind.i64.wrap ((IntKind.i64.wrap ((IntKind.i64.wrap ((IntKind.i64.wrap ((IntKind.i64.wrap ((laws_markAttrS (x1.s.1[x1.i]?.getD default).S.Attrs (IntKind.i64.wrap ((IntKind.i64.wrap ((IntKind.i64.wrap ((IntKind.i64.wrap ((IntKind.i64.wrap ((IntKind.i64.wrap ((IntKind.i64.wrap (x1.s.2 + 1)) + 1)) + 1)) + 1)) + 1)) + 1)) + 1))).1 + 1)) + 1)) + 1)) + 1)) + 1)) + 1)) + 1)) (x1.s.1[x1.i]?.getD default).Now (x1.s.1[x1.i]?.getD default).Inv (x1.s.1[x1.i]?.getD default).Lin (x1.s.1[x1.i]?.getD default).Res))) (by exact setMapS (by simp) (by first | rfl | (simp only [ha, Option.getD_some]; rfl) | (obtain ⟨_, rfl⟩ := List.getElem?_eq_some_iff.1 ha; rfl) | (simp only [Pol.cells_eq]; rfl) | (simp only [ha, Option.getD_some, Pol.cells_eq]; rfl))) ?_
    refine seqE ?_
    refine seqE ?_
    refine andE (by (first | omega | (simp (disch := omega) only [wrap_small, mid_eq, List.length_map]; omega) | (simp; done) | (simp; omega) | (simp at *; omega) | (simp at *; done) | (simp_all; done) | (simp_all; omega))) ?_
    refine rowsE (Y := List.map (Deed.cells true) (List.set x1.s.1 x1.i (Deed.mk x1.s.2 (IntKind.i64.wrap (x1.s.2 + 1)) (Span.mk (IntKind.i64.wrap ((IntKind.i64.wrap (x1.s.2 + 1)) + 1)) (IntKind.i64.wrap ((IntKind.i64.wrap ((IntKind.i64.wrap (x1.s.2 + 1)) + 1)) + 1)) (IntKind.i64.wrap ((IntKind.i64.wrap ((IntKind.i64.wrap ((IntKind.i64.wrap (x1.s.2 + 1)) + 1)) + 1)) + 1)) (IntKind.i64.wrap ((IntKind.i64.wrap ((IntKind.i64.wrap ((IntKind.i64.wrap ((IntKind.i64.wrap (x1.s.2 + 1)) + 1)) + 1)) + 1)) + 1)) ((Int.tmod (IntKind.i64.wrap ((IntKind.i64.wrap ((IntKind.i64.wrap ((IntKind.i64.wrap ((IntKind.i64.wrap ((IntKind.i64.wrap (x1.s.2 + 1)) + 1)) + 1)) + 1)) + 1)) + 1)) 3) == 0) (laws_markAttrS (x1.s.1[x1.i]?.getD default).S.Attrs (IntKind.i64.wrap ((IntKind.i64.wrap ((IntKind.i64.wrap ((IntKind.i64.wrap ((IntKind.i64.wrap ((IntKind.i64.wrap ((IntKind.i64.wrap (x1.s.2 + 1)) + 1)) + 1)) + 1)) + 1)) + 1)) + 1))).2) (laws_markAttrS (x1.s.1[x1.i]?.getD default).S.Attrs (IntKind.i64.wrap ((IntKind.i64.wrap ((IntKind.i64.wrap ((IntKind.i64.wrap ((IntKind.i64.wrap ((IntKind.i64.wrap ((IntKind.i64.wrap (x1.s.2 + 1)) + 1)) + 1)) + 1)) + 1)) + 1)) + 1))).1 (IntKind.i64.wrap ((laws_markAttrS (x1.s.1[x1.i]?.getD default).S.Attrs (IntKind.i64.wrap ((IntKind.i64.wrap ((IntKind.i64.wrap ((IntKind.i64.wrap ((IntKind.i64.wrap ((IntKind.i64.wrap ((IntKind.i64.wrap (x1.s.2 + 1)) + 1)) + 1)) + 1)) + 1)) + 1)) + 1))).1 + 1)) (IntKind.i64.wrap ((IntKind.i64.wrap ((laws_markAttrS (x1.s.1[x1.i]?.getD default).S.Attrs (IntKind.i64.wrap ((IntKind.i64.wrap ((IntKind.i64.wrap ((IntKind.i64.wrap ((IntKind.i64.wrap ((IntKind.i64.wrap ((IntKind.i64.wrap (x1.s.2 + 1)) + 1)) + 1)) + 1)) + 1)) + 1)) + 1))).1 + 1)) + 1)) ((Int.tmod (IntKind.i64.wrap ((IntKind.i64.wrap ((IntKind.i64.wrap ((laws_markAttrS (x1.s.1[x1.i]?.getD default).S.Attrs (IntKind.i64.wrap ((IntKind.i64.wrap ((IntKind.i64.wrap ((IntKind.i64.wrap ((IntKind.i64.wrap ((IntKind.i64.wrap ((IntKind.i64.wrap (x1.s.2 + 1)) + 1)) + 1)) + 1)) + 1)) + 1)) + 1))).1 + 1)) + 1)) + 1)) 3) == 0) ((Int.tmod (IntKind.i64.wrap ((IntKind.i64.wrap ((IntKind.i64.wrap ((IntKind.i64.wrap ((laws_markAttrS (x1.s.1[x1.i]?.getD default).S.Attrs (IntKind.i64.wrap ((IntKind.i64.wrap ((IntKind.i64.wrap ((IntKind.i64.wrap ((IntKind.i64.wrap ((IntKind.i64.wrap ((IntKind.i64.wrap (x1.s.2 + 1)) + 1)) + 1)) + 1)) + 1)) + 1)) + 1))).1 + 1)) + 1)) + 1)) + 1)) 3) == 0) (IntKind.i64.wrap ((IntKind.i64.wrap ((IntKind.i64.wrap ((IntKind.i64.wrap ((IntKind.i64.wrap ((laws_markAttrS (x1.s.1[x1.i]?.getD default).S.Attrs (IntKind.i64.wrap ((IntKind.i64.wrap ((IntKind.i64.wrap ((IntKind.i64.wrap ((IntKind.i64.wrap ((IntKind.i64.wrap ((IntKind.i64.wrap (x1.s.2 + 1)) + 1)) + 1)) + 1)) + 1)) + 1)) + 1))).1 + 1)) + 1)) + 1)) + 1)) + 1)) (IntKind.i64.wrap ((IntKind.i64.wrap ((IntKind.i64.wrap ((IntKind.i64.wrap ((IntKind.i64.wrap ((IntKind.i64.wrap ((laws_markAttrS (x1.s.1[x1.i]?.getD default).S.Attrs (IntKind.i64.wrap ((IntKind.i64.wrap ((IntKind.i64.wrap ((IntKind.i64.wrap ((IntKind.i64.wrap ((IntKind.i64.wrap ((IntKind.i64.wrap (x1.s.2 + 1)) + 1)) + 1)) + 1)) + 1)) + 1)) + 1))).1 + 1)) + 1)) + 1)) + 1)) + 1)) + 1)) (IntKind.i64.wrap ((IntKind.i64.wrap ((IntKind.i64.wrap ((IntKind.i64.wrap ((IntKind.i64.wrap ((IntKind.i64.wrap ((IntKind.i64.wrap ((laws_markAttrS (x1.s.1[x1.i]?.getD default).S.Attrs (IntKind.i64.wrap ((IntKind.i64.wrap ((IntKind.i64.wrap ((IntKind.i64.wrap ((IntKind.i64.wrap ((IntKind.i64.wrap ((IntKind.i64.wrap (x1.s.2 + 1)) + 1)) + 1)) + 1)) + 1)) + 1)) + 1))).1 + 1)) + 1)) + 1)) + 1)) + 1)) + 1)) + 1)) (IntKind.i64.wrap ((IntKind.i64.wrap ((IntKind.i64.wrap ((IntKind.i64.wrap ((IntKind.i64.wrap ((IntKind.i64.wrap ((IntKind.i64.wrap ((IntKind.i64.wrap ((laws_markAttrS (x1.s.1[x1.i]?.getD default).S.Attrs (IntKind.i64.wrap ((IntKind.i64.wrap ((IntKind.i64.wrap ((IntKind.i64.wrap ((IntKind.i64.wrap ((IntKind.i64.wrap ((IntKind.i64.wrap (x1.s.2 + 1)) + 1)) + 1)) + 1)) + 1)) + 1)) + 1))).1 + 1)) + 1)) + 1)) + 1)) + 1)) + 1)) + 1)) + 1)) (x1.s.1[x1.i]?.getD default).Inv (x1.s.1[x1.i]?.getD default).Lin (x1.s.1[x1.i]?.getD default).Res))) (by exact setMapS (by simp) (by first | rfl | (simp only [ha, Option.getD_some]; rfl) | (obtain ⟨_, rfl⟩ := List.getElem?_eq_some_iff.1 ha; rfl) | (simp only [Pol.cells_eq]; rfl) | (simp only [ha, Option.getD_some, Pol.cells_eq]; rfl))) ?_
    refine seqE ?_
    refine seqE ?_
    refine andE (by (first | omega | (simp (disch := omega) only [wrap_small, mid_eq, List.length_map]; omega) | (simp; done) | (simp; omega) | (simp at *; omega) | (simp at *; done) | (simp_all; done) | (simp_all; omega))) ?_
    refine rowsE (Y := List.map (Deed.cells true) (List.set x1.s.1 x1.i (Deed.mk x1.s.2 (IntKind.i64.wrap (x1.s.2 + 1)) (Span.mk (IntKind.i64.wrap ((IntKind.i64.wrap (x1.s.2 + 1)) + 1)) (IntKind.i64.wrap ((IntKind.i64.wrap ((IntKind.i64.wrap (x1.s.2 + 1)) + 1)) + 1)) (IntKind.i64.wrap ((IntKind.i64.wrap ((IntKind.i64.wrap ((IntKind.i64.wrap (x1.s.2 + 1)) + 1)) + 1)) + 1)) (IntKind.i64.wrap ((IntKind.i64.wrap ((IntKind.i64.wrap ((IntKind.i64.wrap ((IntKind.i64.wrap (x1.s.2 + 1)) + 1)) + 1)) + 1)) + 1)) ((Int.tmod (IntKind.i64.wrap ((IntKind.i64.wrap ((IntKind.i64.wrap ((IntKind.i64.wrap ((IntKind.i64.wrap ((IntKind.i64.wrap (x1.s.2 + 1)) + 1)) + 1)) + 1)) + 1)) + 1)) 3) == 0) (laws_markAttrS (x1.s.1[x1.i]?.getD default).S.Attrs (IntKind.i64.wrap ((IntKind.i64.wrap ((IntKind.i64.wrap ((IntKind.i64.wrap ((IntKind.i64.wrap ((IntKind.i64.wrap ((IntKind.i64.wrap (x1.s.2 + 1)) + 1)) + 1)) + 1)) + 1)) + 1)) + 1))).2) (laws_markAttrS (x1.s.1[x1.i]?.getD default).S.Attrs (IntKind.i64.wrap ((IntKind.i64.wrap ((IntKind.i64.wrap ((IntKind.i64.wrap ((IntKind.i64.wrap ((IntKind.i64.wrap ((IntKind.i64.wrap (x1.s.2 + 1)) + 1)) + 1)) + 1)) + 1)) + 1)) + 1))).1 (IntKind.i64.wrap ((laws_markAttrS (x1.s.1[x1.i]?.getD default).S.Attrs (IntKind.i64.wrap ((IntKind.i64.wrap ((IntKind.i64.wrap ((IntKind.i64.wrap ((IntKind.i64.wrap ((IntKind.i64.wrap ((IntKind.i64.wrap (x1.s.2 + 1)) + 1)) + 1)) + 1)) + 1)) + 1)) + 1))).1 + 1)) (IntKind.i64.wrap ((IntKind.i64.wrap ((laws_markAttrS (x1.s.1[x1.i]?.getD default).S.Attrs (IntKind.i64.wrap ((IntKind.i64.wrap ((IntKind.i64.wrap ((IntKind.i64.wrap ((IntKind.i64.wrap ((IntKind.i64.wrap ((IntKind.i64.wrap (x1.s.2 + 1)) + 1)) + 1)) + 1)) + 1)) + 1)) + 1))).1 + 1)) + 1)) ((Int.tmod (IntKind.i64.wrap ((IntKind.i64.wrap ((IntKind.i64.wrap ((laws_markAttrS (x1.s.1[x1.i]?.getD default).S.Attrs (IntKind.i64.wrap ((IntKind.i64.wrap ((IntKind.i64.wrap ((IntKind.i64.wrap ((IntKind.i64.wrap ((IntKind.i64.wrap ((IntKind.i64.wrap (x1.s.2 + 1)) + 1)) + 1)) + 1)) + 1)) + 1)) + 1))).1 + 1)) + 1)) + 1)) 3) == 0) ((Int.tmod (IntKind.i64.wrap ((IntKind.i64.wrap ((IntKind.i64.wrap ((IntKind.i64.wrap ((laws_markAttrS (x1.s.1[x1.i]?.getD default).S.Attrs (IntKind.i64.wrap ((IntKind.i64.wrap ((IntKind.i64.wrap ((IntKind.i64.wrap ((IntKind.i64.wrap ((IntKind.i64.wrap ((IntKind.i64.wrap (x1.s.2 + 1)) + 1)) + 1)) + 1)) + 1)) + 1)) + 1))).1 + 1)) + 1)) + 1)) + 1)) 3) == 0) (IntKind.i64.wrap ((IntKind.i64.wrap ((IntKind.i64.wrap ((IntKind.i64.wrap ((IntKind.i64.wrap ((laws_markAttrS (x1.s.1[x1.i]?.getD default).S.Attrs (IntKind.i64.wrap ((IntKind.i64.wrap ((IntKind.i64.wrap ((IntKind.i64.wrap ((IntKind.i64.wrap ((IntKind.i64.wrap ((IntKind.i64.wrap (x1.s.2 + 1)) + 1)) + 1)) + 1)) + 1)) + 1)) + 1))).1 + 1)) + 1)) + 1)) + 1)) + 1)) (IntKind.i64.wrap ((IntKind.i64.wrap ((IntKind.i64.wrap ((IntKind.i64.wrap ((IntKind.i64.wrap ((IntKind.i64.wrap ((laws_markAttrS (x1.s.1[x1.i]?.getD default).S.Attrs (IntKind.i64.wrap ((IntKind.i64.wrap ((IntKind.i64.wrap ((IntKind.i64.wrap ((IntKind.i64.wrap ((IntKind.i64.wrap ((IntKind.i64.wrap (x1.s.2 + 1)) + 1)) + 1)) + 1)) + 1)) + 1)) + 1))).1 + 1)) + 1)) + 1)) + 1)) + 1)) + 1)) (IntKind.i64.wrap ((IntKind.i64.wrap ((IntKind.i64.wrap ((IntKind.i64.wrap ((IntKind.i64.wrap ((IntKind.i64.wrap ((IntKind.i64.wrap ((laws_markAttrS (x1.s.1[x1.i]?.getD default).S.Attrs (IntKind.i64.wrap ((IntKind.i64.wrap ((IntKind.i64.wrap ((IntKind.i64.wrap ((IntKind.i64.wrap ((IntKind.i64.wrap ((IntKind.i64.wrap (x1.s.2 + 1)) + 1)) + 1)) + 1)) + 1)) + 1)) + 1))).1 + 1)) + 1)) + 1)) + 1)) + 1)) + 1)) + 1)) (IntKind.i64.wrap ((IntKind.i64.wrap ((IntKind.i64.wrap ((IntKind.i64.wrap ((IntKind.i64.wrap ((IntKind.i64.wrap ((IntKind.i64.wrap ((IntKind.i64.wrap ((laws_markAttrS (x1.s.1[x1.i]?.getD default).S.Attrs (IntKind.i64.wrap ((IntKind.i64.wrap ((IntKind.i64.wrap ((IntKind.i64.wrap ((IntKind.i64.wrap ((IntKind.i64.wrap ((IntKind.i64.wrap (x1.s.2 + 1)) + 1)) + 1)) + 1)) + 1)) + 1)) + 1))).1 + 1)) + 1)) + 1)) + 1)) + 1)) + 1)) + 1)) + 1)) (IntKind.i64.wrap ((IntKind.i64.wrap ((IntKind.i64.wrap ((IntKind.i64.wrap ((IntKind.i64.wrap ((IntKind.i64.wrap ((IntKind.i64.wrap ((IntKind.i64.wrap ((IntKind.i64.wrap ((laws_markAttrS (x1.s.1[x1.i]?.getD default).S.Attrs (IntKind.i64.wrap ((IntKind.i64.wrap ((IntKind.i64.wrap ((IntKind.i64.wrap ((IntKind.i64.wrap ((IntKind.i64.wrap ((IntKind.i64.wrap (x1.s.2 + 1)) + 1)) + 1)) + 1)) + 1)) + 1)) + 1))).1 + 1)) + 1)) + 1)) + 1)) + 1)) + 1)) + 1)) + 1)) + 1)) (x1.s.1[x1.i]?.getD default).Lin (x1.s.1[x1.i]?.getD default).Res))) (by exact setMapS (by simp) (by first | rfl | (simp only [ha, Option.getD_some]; rfl) | (obtain ⟨_, rfl⟩ := List.getElem?_eq_some_iff.1 ha; rfl) | (simp only [Pol.cells_eq]; rfl) | (simp only [ha, Option.getD_some, Pol.cells_eq]; rfl))) ?_
    refine seqE ?_
    refine seqE ?_
    refine andE (by (first | omega | (simp (disch := omega) only [wrap_small, mid_eq, List.length_map]; omega) | (simp; done) | (simp; omega) | (simp at *; omega) | (simp at *; done) | (simp_all; done) | (simp_all; omega))) ?_
    refine rowsE (Y := List.map (Deed.cells true) (List.set x1.s.1 x1.i (Deed.mk x1.s.2 (IntKind.i64.wrap (x1.s.2 + 1)) (Span.mk (IntKind.i64.wrap ((IntKind.i64.wrap (x1.s.2 + 1)) + 1)) (IntKind.i64.wrap ((IntKind.i64.wrap ((IntKind.i64.wrap (x1.s.2 + 1)) + 1)) + 1)) (IntKind.i64.wrap ((IntKind.i64.wrap ((IntKind.i64.wrap ((IntKind.i64.wrap (x1.s.2 + 1)) + 1)) + 1)) + 1)) (IntKind.i64.wrap ((IntKind.i64.wrap ((IntKind.i64.wrap ((IntKind.i64.wrap ((IntKind.i64.wrap (x1.s.2 + 1)) + 1)) + 1)) + 1)) + 1)) ((Int.tmod (IntKind.i64.wrap ((IntKind.i64.wrap ((IntKind.i64.wrap ((IntKind.i64.wrap ((IntKind.i64.wrap ((IntKind.i64.wrap (x1.s.2 + 1)) + 1)) + 1)) + 1)) + 1)) + 1)) 3) == 0) (laws_markAttrS (x1.s.1[x1.i]?.getD default).S.Attrs (IntKind.i64.wrap ((IntKind.i64.wrap ((IntKind.i64.wrap ((IntKind.i64.wrap ((IntKind.i64.wrap ((IntKind.i64.wrap ((IntKind.i64.wrap (x1.s.2 + 1)) + 1)) + 1)) + 1)) + 1)) + 1)) + 1))).2) (laws_markAttrS (x1.s.1[x1.i]?.getD default).S.Attrs (IntKind.i64.wrap ((IntKind.i64.wrap ((IntKind.i64.wrap ((IntKind.i64.wrap ((IntKind.i64.wrap ((IntKind.i64.wrap ((IntKind.i64.wrap (x1.s.2 + 1)) + 1)) + 1)) + 1)) + 1)) + 1)) + 1))).1 (IntKind.i64.wrap ((laws_markAttrS (x1.s.1[x1.i]?.getD default).S.Attrs (IntKind.i64.wrap ((IntKind.i64.wrap ((IntKind.i64.wrap ((IntKind.i64.wrap ((IntKind.i64.wrap ((IntKind.i64.wrap ((IntKind.i64.wrap (x1.s.2 + 1)) + 1)) + 1)) + 1)) + 1)) + 1)) + 1))).1 + 1)) (IntKind.i64.wrap ((IntKind.i64.wrap ((laws_markAttrS (x1.s.1[x1.i]?.getD default).S.Attrs (IntKind.i64.wrap ((IntKind.i64.wrap ((IntKind.i64.wrap ((IntKind.i64.wrap ((IntKind.i64.wrap ((IntKind.i64.wrap ((IntKind.i64.wrap (x1.s.2 + 1)) + 1)) + 1)) + 1)) + 1)) + 1)) + 1))).1 + 1)) + 1)) ((Int.tmod (IntKind.i64.wrap ((IntKind.i64.wrap ((IntKind.i64.wrap ((laws_markAttrS (x1.s.1[x1.i]?.getD default).S.Attrs (IntKind.i64.wrap ((IntKind.i64.wrap ((IntKind.i64.wrap ((IntKind.i64.wrap ((IntKind.i64.wrap ((IntKind.i64.wrap ((IntKind.i64.wrap (x1.s.2 + 1)) + 1)) + 1)) + 1)) + 1)) + 1)) + 1))).1 + 1)) + 1)) + 1)) 3) == 0) ((Int.tmod (IntKind.i64.wrap ((IntKind.i64.wrap ((IntKind.i64.wrap ((IntKind.i64.wrap ((laws_markAttrS (x1.s.1[x1.i]?.getD default).S.Attrs (IntKind.i64.wrap ((IntKind.i64.wrap ((IntKind.i64.wrap ((IntKind.i64.wrap ((IntKind.i64.wrap ((IntKind.i64.wrap ((IntKind.i64.wrap (x1.s.2 + 1)) + 1)) + 1)) + 1)) + 1)) + 1)) + 1))).1 + 1)) + 1)) + 1)) + 1)) 3) == 0) (IntKind.i64.wrap ((IntKind.i64.wrap ((IntKind.i64.wrap ((IntKind.i64.wrap ((IntKind.i64.wrap ((laws_markAttrS (x1.s.1[x1.i]?.getD default).S.Attrs (IntKind.i64.wrap ((IntKind.i64.wrap ((IntKind.i64.wrap ((IntKind.i64.wrap ((IntKind.i64.wrap ((IntKind.i64.wrap ((IntKind.i64.wrap (x1.s.2 + 1)) + 1)) + 1)) + 1)) + 1)) + 1)) + 1))).1 + 1)) + 1)) + 1)) + 1)) + 1)) (IntKind.i64.wrap ((IntKind.i64.wrap ((IntKind.i64.wrap ((IntKind.i64.wrap ((IntKind.i64.wrap ((IntKind.i64.wrap ((laws_markAttrS (x1.s.1[x1.i]?.getD default).S.Attrs (IntKind.i64.wrap ((IntKind.i64.wrap ((IntKind.i64.wrap ((IntKind.i64.wrap ((IntKind.i64.wrap ((IntKind.i64.wrap ((IntKind.i64.wrap (x1.s.2 + 1)) + 1)) + 1)) + 1)) + 1)) + 1)) + 1))).1 + 1)) + 1)) + 1)) + 1)) + 1)) + 1)) (IntKind.i64.wrap ((IntKind.i64.wrap ((IntKind.i64.wrap ((IntKind.i64.wrap ((IntKind.i64.wrap ((IntKind.i64.wrap ((IntKind.i64.wrap ((laws_markAttrS (x1.s.1[x1.i]?.getD default).S.Attrs (IntKind.i64.wrap ((IntKind.i64.wrap ((IntKind.i64.wrap ((IntKind.i64.wrap ((IntKind.i64.wrap ((IntKind.i64.wrap ((IntKind.i64.wrap (x1.s.2 + 1)) + 1)) + 1)) + 1)) + 1)) + 1)) + 1))).1 + 1)) + 1)) + 1)) + 1)) + 1)) + 1)) + 1)) (IntKind.i64.wrap ((IntKind.i64.wrap ((IntKind.i64.wrap ((IntKind.i64.wrap ((IntKind.i64.wrap ((IntKind.i64.wrap ((IntKind.i64.wrap ((IntKind.i64.wrap ((laws_markAttrS (x1.s.1[x1.i]?.getD default).S.Attrs (IntKind.i64.wrap ((IntKind.i64.wrap ((IntKind.i64.wrap ((IntKind.i64.wrap ((IntKind.i64.wrap ((IntKind.i64.wrap ((IntKind.i64.wrap (x1.s.2 + 1)) + 1)) + 1)) + 1)) + 1)) + 1)) + 1))).1 + 1)) + 1)) + 1)) + 1)) + 1)) + 1)) + 1)) + 1)) (IntKind.i64.wrap ((IntKind.i64.wrap ((IntKind.i64.wrap ((IntKind.i64.wrap ((IntKind.i64.wrap ((IntKind.i64.wrap ((IntKind.i64.wrap ((IntKind.i64.wrap ((IntKind.i64.wrap ((laws_markAttrS (x1.s.1[x1.i]?.getD default).S.Attrs (IntKind.i64.wrap ((IntKind.i64.wrap ((IntKind.i64.wrap ((IntKind.i64.wrap ((IntKind.i64.wrap ((IntKind.i64.wrap ((IntKind.i64.wrap (x1.s.2 + 1)) + 1)) + 1)) + 1)) + 1)) + 1)) + 1))).1 + 1)) + 1)) + 1)) + 1)) + 1)) + 1)) + 1)) + 1)) + 1)) (IntKind.i64.wrap ((IntKind.i64.wrap ((IntKind.i64.wrap ((IntKind.i64.wrap ((IntKind.i64.wrap ((IntKind.i64.wrap ((IntKind.i64.wrap ((IntKind.i64.wrap ((IntKind.i64.wrap ((IntKind.i64.wrap ((laws_markAttrS (x1.s.1[x1.i]?.getD default).S.Attrs (IntKind.i64.wrap ((IntKind.i64.wrap ((IntKind.i64.wrap ((IntKind.i64.wrap ((IntKind.i64.wrap ((IntKind.i64.wrap ((IntKind.i64.wrap (x1.s.2 + 1)) + 1)) + 1)) + 1)) + 1)) + 1)) + 1))).1 + 1)) + 1)) + 1)) + 1)) + 1)) + 1)) + 1)) + 1)) + 1)) + 1)) (x1.s.1[x1.i]?.getD default).Res))) (by exact setMapS (by simp) (by first | rfl | (simp only [ha, Option.getD_some]; rfl) | (obtain ⟨_, rfl⟩ := List.getElem?_eq_some_iff.1 ha; rfl) | (simp only [Pol.cells_eq]; rfl) | (simp only [ha, Option.getD_some, Pol.cells_eq]; rfl))) ?_
    refine seqE ?_
    refine seqE ?_
    refine andE (by (first | omega | (simp (disch := omega) only [wrap_small, mid_eq, List.length_map]; omega) | (simp; done) | (simp; omega) | (simp at *; omega) | (simp at *; done) | (simp_all; done) | (simp_all; omega))) ?_
    refine rowsE (Y := List.map (Deed.cells true) (List.set x1.s.1 x1.i (Deed.mk x1.s.2 (IntKind.i64.wrap (x1.s.2 + 1)) (Span.mk (IntKind.i64.wrap ((IntKind.i64.wrap (x1.s.2 + 1)) + 1)) (IntKind.i64.wrap ((IntKind.i64.wrap ((IntKind.i64.wrap (x1.s.2 + 1)) + 1)) + 1)) (IntKind.i64.wrap ((IntKind.i64.wrap ((IntKind.i64.wrap ((IntKind.i64.wrap (x1.s.2 + 1)) + 1)) + 1)) + 1)) (IntKind.i64.wrap ((IntKind.i64.wrap ((IntKind.i64.wrap ((IntKind.i64.wrap ((IntKind.i64.wrap (x1.s.2 + 1)) + 1)) + 1)) + 1)) + 1)) ((Int.tmod (IntKind.i64.wrap ((IntKind.i64.wrap ((IntKind.i64.wrap ((IntKind.i64.wrap ((IntKind.i64.wrap ((IntKind.i64.wrap (x1.s.2 + 1)) + 1)) + 1)) + 1)) + 1)) + 1)) 3) == 0) (laws_markAttrS (x1.s.1[x1.i]?.getD default).S.Attrs (IntKind.i64.wrap ((IntKind.i64.wrap ((IntKind.i64.wrap ((IntKind.i64.wrap ((IntKind.i64.wrap ((IntKind.i64.wrap ((IntKind.i64.wrap (x1.s.2 + 1)) + 1)) + 1)) + 1)) + 1)) + 1)) + 1))).2) (laws_markAttrS (x1.s.1[x1.i]?.getD default).S.Attrs (IntKind.i64.wrap ((IntKind.i64.wrap ((IntKind.i64.wrap ((IntKind.i64.wrap ((IntKind.i64.wrap ((IntKind.i64.wrap ((IntKind.i64.wrap (x1.s.2 + 1)) + 1)) + 1)) + 1)) + 1)) + 1)) + 1))).1 (IntKind.i64.wrap ((laws_markAttrS (x1.s.1[x1.i]?.getD default).S.Attrs (IntKind.i64.wrap ((IntKind.i64.wrap ((IntKind.i64.wrap ((IntKind.i64.wrap ((IntKind.i64.wrap ((IntKind.i64.wrap ((IntKind.i64.wrap (x1.s.2 + 1)) + 1)) + 1)) + 1)) + 1)) + 1)) + 1))).1 + 1)) (IntKind.i64.wrap ((IntKind.i64.wrap ((laws_markAttrS (x1.s.1[x1.i]?.getD default).S.Attrs (IntKind.i64.wrap ((IntKind.i64.wrap ((IntKind.i64.wrap ((IntKind.i64.wrap ((IntKind.i64.wrap ((IntKind.i64.wrap ((IntKind.i64.wrap (x1.s.2 + 1)) + 1)) + 1)) + 1)) + 1)) + 1)) + 1))).1 + 1)) + 1)) ((Int.tmod (IntKind.i64.wrap ((IntKind.i64.wrap ((IntKind.i64.wrap ((laws_markAttrS (x1.s.1[x1.i]?.getD default).S.Attrs (IntKind.i64.wrap ((IntKind.i64.wrap ((IntKind.i64.wrap ((IntKind.i64.wrap ((IntKind.i64.wrap ((IntKind.i64.wrap ((IntKind.i64.wrap (x1.s.2 + 1)) + 1)) + 1)) + 1)) + 1)) + 1)) + 1))).1 + 1)) + 1)) + 1)) 3) == 0) ((Int.tmod (IntKind.i64.wrap ((IntKind.i64.wrap ((IntKind.i64.wrap ((IntKind.i64.wrap ((laws_markAttrS (x1.s.1[x1.i]?.getD default).S.Attrs (IntKind.i64.wrap ((IntKind.i64.wrap ((IntKind.i64.wrap ((IntKind.i64.wrap ((IntKind.i64.wrap ((IntKind.i64.wrap ((IntKind.i64.wrap (x1.s.2 + 1)) + 1)) + 1)) + 1)) + 1)) + 1)) + 1))).1 + 1)) + 1)) + 1)) + 1)) 3) == 0) (IntKind.i64.wrap ((IntKind.i64.wrap ((IntKind.i64.wrap ((IntKind.i64.wrap ((IntKind.i64.wrap ((laws_markAttrS (x1.s.1[x1.i]?.getD default).S.Attrs (IntKind.i64.wrap ((IntKind.i64.wrap ((IntKind.i64.wrap ((IntKind.i64.wrap ((IntKind.i64.wrap ((IntKind.i64.wrap ((IntKind.i64.wrap (x1.s.2 + 1)) + 1)) + 1)) + 1)) + 1)) + 1)) + 1))).1 + 1)) + 1)) + 1)) + 1)) + 1)) (IntKind.i64.wrap ((IntKind.i64.wrap ((IntKind.i64.wrap ((IntKind.i64.wrap ((IntKind.i64.wrap ((IntKind.i64.wrap ((laws_markAttrS (x1.s.1[x1.i]?.getD default).S.Attrs (IntKind.i64.wrap ((IntKind.i64.wrap ((IntKind.i64.wrap ((IntKind.i64.wrap ((IntKind.i64.wrap ((IntKind.i64.wrap ((IntKind.i64.wrap (x1.s.2 + 1)) + 1)) + 1)) + 1)) + 1)) + 1)) + 1))).1 + 1)) + 1)) + 1)) + 1)) + 1)) + 1)) (IntKind.i64.wrap ((IntKind.i64.wrap ((IntKind.i64.wrap ((IntKind.i64.wrap ((IntKind.i64.wrap ((IntKind.i64.wrap ((IntKind.i64.wrap ((laws_markAttrS (x1.s.1[x1.i]?.getD default).S.Attrs (IntKind.i64.wrap ((IntKind.i64.wrap ((IntKind.i64.wrap ((IntKind.i64.wrap ((IntKind.i64.wrap ((IntKind.i64.wrap ((IntKind.i64.wrap (x1.s.2 + 1)) + 1)) + 1)) + 1)) + 1)) + 1)) + 1))).1 + 1)) + 1)) + 1)) + 1)) + 1)) + 1)) + 1)) (IntKind.i64.wrap ((IntKind.i64.wrap ((IntKind.i64.wrap ((IntKind.i64.wrap ((IntKind.i64.wrap ((IntKind.i64.wrap ((IntKind.i64.wrap ((IntKind.i64.wrap ((laws_markAttrS (x1.s.1[x1.i]?.getD default).S.Attrs (IntKind.i64.wrap ((IntKind.i64.wrap ((IntKind.i64.wrap ((IntKind.i64.wrap ((IntKind.i64.wrap ((IntKind.i64.wrap ((IntKind.i64.wrap (x1.s.2 + 1)) + 1)) + 1)) + 1)) + 1)) + 1)) + 1))).1 + 1)) + 1)) + 1)) + 1)) + 1)) + 1)) + 1)) + 1)) (IntKind.i64.wrap ((IntKind.i64.wrap ((IntKind.i64.wrap ((IntKind.i64.wrap ((IntKind.i64.wrap ((IntKind.i64.wrap ((IntKind.i64.wrap ((IntKind.i64.wrap ((IntKind.i64.wrap ((laws_markAttrS (x1.s.1[x1.i]?.getD default).S.Attrs (IntKind.i64.wrap ((IntKind.i64.wrap ((IntKind.i64.wrap ((IntKind.i64.wrap ((IntKind.i64.wrap ((IntKind.i64.wrap ((IntKind.i64.wrap (x1.s.2 + 1)) + 1)) + 1)) + 1)) + 1)) + 1)) + 1))).1 + 1)) + 1)) + 1)) + 1)) + 1)) + 1)) + 1)) + 1)) + 1)) (IntKind.i64.wrap ((IntKind.i64.wrap ((IntKind.i64.wrap ((IntKind.i64.wrap ((IntKind.i64.wrap ((IntKind.i64.wrap ((IntKind.i64.wrap ((IntKind.i64.wrap ((IntKind.i64.wrap ((IntKind.i64.wrap ((laws_markAttrS (x1.s.1[x1.i]?.getD default).S.Attrs (IntKind.i64.wrap ((IntKind.i64.wrap ((IntKind.i64.wrap ((IntKind.i64.wrap ((IntKind.i64.wrap ((IntKind.i64.wrap ((IntKind.i64.wrap (x1.s.2 + 1)) + 1)) + 1)) + 1)) + 1)) + 1)) + 1))).1 + 1)) + 1)) + 1)) + 1)) + 1)) + 1)) + 1)) + 1)) + 1)) + 1)) (IntKind.i64.wrap ((IntKind.i64.wrap ((IntKind.i64.wrap ((IntKind.i64.wrap ((IntKind.i64.wrap ((IntKind.i64.wrap ((IntKind.i64.wrap ((IntKind.i64.wrap ((IntKind.i64.wrap ((IntKind.i64.wrap ((IntKind.i64.wrap ((laws_markAttrS (x1.s.1[x1.i]?.getD default).S.Attrs (IntKind.i64.wrap ((IntKind.i64.wrap ((IntKind.i64.wrap ((IntKind.i64.wrap ((IntKind.i64.wrap ((IntKind.i64.wrap ((IntKind.i64.wrap (x1.s.2 + 1)) + 1)) + 1)) + 1)) + 1)) + 1)) + 1))).1 + 1)) + 1)) + 1)) + 1)) + 1)) + 1)) + 1)) + 1)) + 1)) + 1)) + 1))))) (by exact setMapS (by simp) (by first | rfl | (simp only [ha, Option.getD_some]; rfl) | (obtain ⟨_, rfl⟩ := List.getElem?_eq_some_iff.1 ha; rfl) | (simp only [Pol.cells_eq]; rfl) | (simp only [ha, Option.getD_some, Pol.cells_eq]; rfl))) ?_
    exact x1.goE hi1 hb1 (by simpa using x1.hI) [none, some 1] ⟨rfl, ⟨rfl, (eqInt hw1), ⟨rfl, rfl, rfl, rfl, by (first | rfl | omega | (dsimp only; omega) | (simp; done) | (simp; omega) | (simp [LstSt.init, LstSt.step, LstInv.init, CntSt.init, CntSt.step, CntInv.init, WhlSt.init, WhlSt.step]; done) | (simp [LstSt.init, LstSt.step, LstInv.init, CntSt.init, CntSt.step, CntInv.init, WhlSt.init, WhlSt.step]; omega))⟩, trivial⟩, ⟨⟨rfl, rfl, rfl⟩, trivial⟩, ⟨⟨rfl, rfl, rfl, rfl, by (first | rfl | omega | (dsimp only; omega) | (simp; done) | (simp; omega) | (simp [LstSt.init, LstSt.step, LstInv.init, CntSt.init, CntSt.step, CntInv.init, WhlSt.init, WhlSt.step]; done) | (simp [LstSt.init, LstSt.step, LstInv.init, CntSt.init, CntSt.step, CntInv.init, WhlSt.init, WhlSt.step]; omega))⟩, trivial⟩⟩
  have hg := finE hg (x1.fin hi1)
  refine seqE ?_
  exact leafM hown hg
def laws_markIntS_b1 (i1 : Nat) (s1 : (List Int) × Int) (a1 : Int) : Step ((List Int) × Int) (Int × (List Int)) :=
  (.next ((List.set s1.1 i1 s1.2), (IntKind.i64.wrap (s1.2 + 1))))
def laws_markIntS (p0 : (List Int)) (p1 : Int) : (Int × (List Int)) :=
  (Fin.get (fun s1 => (s1.2, s1.1)) (loopL laws_markIntS_b1 0 (p0, p1) p0))
theorem c_laws_markIntS (p0 : (List Int)) (p1 : Int) : FnOk prog 14 [.tup [.one (.s true 1 (List.map cInt p0))], .one (.v (.int .i64 p1))] ⟨.one (.v (.int .i64 (laws_markIntS p0 p1).1)), [.one (.s true 1 (List.map cInt ((laws_markIntS p0 p1).2)))], [], false⟩ := by
  refine FnOk.introM (E := env) envOk wide func14 rfl (by kernel_rfl) rfl ?_
  have hg := laws_markIntS.eq_1 p0 p1
  have hown : (∀ g : (Int × (List Int)), AV.Own (AV.one (.v (.int .i64 g.1)))) ∧ (fun g : (Int × (List Int)) => T.s true 1 (List.map cInt (g.2))) = _ := ⟨fun g => .v _, rfl⟩
  refine seqE ?_
  refine seqE ?_
  refine seqE ?_
  refine loopLI (fun _ s => (s.1).length = (p0).length) hg (by simp) [0] (fun x1 => [(1, .one (.v (.int .i64 x1.s.2))), (5, .one (.v (.int .i64 ((x1.i : Nat) : Int))))]) (fun x1 => [.dead, .new ⟨1, false, List.map cInt x1.s.1, 0⟩]) [none, some 1] ?_ (fun x1 => ?_)
  · exact ⟨rfl, ⟨rfl, rfl, ⟨rfl, rfl, rfl, rfl, by (first | rfl | omega | (dsimp only; omega) | (simp; done) | (simp; omega) | (simp [LstSt.init, LstSt.step, LstInv.init, CntSt.init, CntSt.step, CntInv.init, WhlSt.init, WhlSt.step]; done) | (simp [LstSt.init, LstSt.step, LstInv.init, CntSt.init, CntSt.step, CntInv.init, WhlSt.init, WhlSt.step]; omega))⟩, trivial⟩, ⟨⟨rfl, rfl, rfl⟩, trivial⟩, ⟨⟨rfl, rfl, rfl, rfl, by (first | rfl | omega | (dsimp only; omega) | (simp; done) | (simp; omega) | (simp [LstSt.init, LstSt.step, LstInv.init, CntSt.init, CntSt.step, CntInv.init, WhlSt.init, WhlSt.step]; done) | (simp [LstSt.init, LstSt.step, LstInv.init, CntSt.init, CntSt.step, CntInv.init, WhlSt.init, WhlSt.step]; omega))⟩, trivial⟩⟩
  have hI1 : (x1.s.1).length = (p0).length := by simpa using x1.hI
  refine seqE ?_
  refine seqE ?_
  refine lenE (k := (p0).length) (by simp) (fun hN1 => ?_)
  refine tstL (fun hi1 => ?_) (fun hi1 => ?_)
  · have hb1 := (x1.bdy hi1).trans (laws_markIntS_b1.eq_1 ..)
    have hw1 := wrap_succ hi1 (by first | assumption | omega)
    refine seqE ?_
    refine seqE ?_
    refine andE (by (first | omega | (simp (disch := omega) only [wrap_small, mid_eq, List.length_map]; omega) | (simp; done) | (simp; omega) | (simp at *; omega) | (simp at *; done) | (simp_all; done) | (simp_all; omega))) ?_
    refine rowsE (Y := List.map cInt (List.set x1.s.1 x1.i x1.s.2)) (by exact setMapE (by simp) (fun a ha => by first | rfl | (simp only [ha, Option.getD_some]; rfl) | (obtain ⟨_, rfl⟩ := List.getElem?_eq_some_iff.1 ha; rfl) | (simp only [Pol.cells_eq]; rfl) | (simp only [ha, Option.getD_some, Pol.cells_eq]; rfl))) ?_
    exact x1.goE hi1 hb1 (by simpa using x1.hI) [none, some 1] ⟨rfl, ⟨rfl, (eqInt hw1), ⟨rfl, rfl, rfl, rfl, by (first | rfl | omega | (dsimp only; omega) | (simp; done) | (simp; omega) | (simp [LstSt.init, LstSt.step, LstInv.init, CntSt.init, CntSt.step, CntInv.init, WhlSt.init, WhlSt.step]; done) | (simp [LstSt.init, LstSt.step, LstInv.init, CntSt.init, CntSt.step, CntInv.init, WhlSt.init, WhlSt.step]; omega))⟩, trivial⟩, ⟨⟨rfl, rfl, rfl⟩, trivial⟩, ⟨⟨rfl, rfl, rfl, rfl, by (first | rfl | omega | (dsimp only; omega) | (simp; done) | (simp; omega) | (simp [LstSt.init, LstSt.step, LstInv.init, CntSt.init, CntSt.step, CntInv.init, WhlSt.init, WhlSt.step]; done) | (simp [LstSt.init, LstSt.step, LstInv.init, CntSt.init, CntSt.step, CntInv.init, WhlSt.init, WhlSt.step]; omega))⟩, trivial⟩⟩
  have hg := finE hg (x1.fin hi1)
  refine seqE ?_
  exact leafM hown hg
def laws_heldIntS_b1 (i1 : Nat) (s1 : Int) (a1 : Int) : Step (Int) Int :=
  (bif (a1 != s1) then (.done (-1)) else (.next (IntKind.i64.wrap (s1 + 1))))
def laws_heldIntS (p0 : (List Int)) (p1 : Int) : Int :=
  (Fin.get (fun s1 => s1) (loopL laws_heldIntS_b1 0 p1 p0))
theorem c_laws_heldIntS (p0 : (List Int)) (p1 : Int) : FnOk prog 15 [.one (.s false 1 (List.map cInt p0)), .one (.v (.int .i64 p1))] ⟨.one (.v (.int .i64 (laws_heldIntS p0 p1))), [], [], false⟩ := by
  refine FnOk.intro (E := env) envOk wide func15 rfl (by kernel_rfl) rfl rfl ?_
  have hg := laws_heldIntS.eq_1 p0 p1
  have hown : ∀ g : Int, AV.Own (AV.one (.v (.int .i64 g))) := fun g => .v _
  refine seqE ?_
  refine seqE ?_
  refine seqE ?_
  refine loopLE hg [0] (fun x1 => [(1, .one (.v (.int .i64 x1.s))), (5, .one (.v (.int .i64 ((x1.i : Nat) : Int))))]) (fun x1 => []) [] ?_ (fun x1 => ?_)
  · exact ⟨rfl, ⟨rfl, rfl, rfl, trivial⟩, trivial, trivial⟩
  refine seqE ?_
  refine seqE ?_
  refine lenM fun hN1 => ?_
  refine tstL (fun hi1 => ?_) (fun hi1 => ?_)
  · have hb1 := (x1.bdy hi1).trans (laws_heldIntS_b1.eq_1 ..)
    have hw1 := wrap_succ hi1 (by first | assumption | omega)
    refine seqE ?_
    refine seqE ?_
    refine seqE ?_
    refine idxAt hi1 ?_
    refine brW hb1 (fun hb1 h2 => ?_) (fun hb1 h2 => x1.goE hi1 hb1 [] ⟨rfl, ⟨rfl, (eqInt hw1), rfl, trivial⟩, trivial, trivial⟩)
    refine seqE ?_
    have hg := donE hg (x1.outD hi1 hb1)
    exact leafE hown hg
  have hg := finE hg (x1.fin hi1)
  refine seqE ?_
  exact leafE hown hg
def laws_FnExactStampsOf (p0 : (List Deed)) : Bool :=
  (bif (decide ((laws_szDeedS p0 1048576) < 0)) then true else (bif (!(laws_eqIntS (impl_StampsOf (laws_toDeedS p0)) (spec_StampsOf (laws_toDeedS p0)))) then false else (bif (!(laws_eqDeedS (laws_toDeedS p0) (laws_toDeedS p0))) then false else (bif (decide ((laws_markDeedS (laws_toDeedS p0) 1).1 < 0)) then false else (bif (!(laws_eqIntS (impl_StampsOf (laws_toDeedS p0)) (spec_StampsOf (laws_toDeedS p0)))) then false else (bif (decide ((laws_heldIntS (laws_markIntS (impl_StampsOf (laws_toDeedS p0)) 1).2 1) < 0)) then false else (bif ((laws_heldIntS (laws_markIntS (impl_StampsOf (laws_toDeedS p0)) 1).2 1) != (laws_markIntS (impl_StampsOf (laws_toDeedS p0)) 1).1) then false else (bif (!(laws_eqIntS (impl_StampsOf (laws_toDeedS p0)) (spec_StampsOf (laws_toDeedS p0)))) then false else (bif (decide ((laws_heldIntS (laws_markIntS (impl_StampsOf (laws_toDeedS p0)) 1).2 1) < 0)) then false else (bif ((laws_heldIntS (laws_markIntS (impl_StampsOf (laws_toDeedS p0)) 1).2 1) != (laws_markIntS (impl_StampsOf (laws_toDeedS p0)) 1).1) then false else true))))))))))
theorem c_laws_FnExactStampsOf (p0 : (List Deed)) (hw0 : bdS Deed.bd 9223372036854775807 p0) : FnOk prog 3 [.one (.s false 20 (List.map (Deed.cells false) p0))] ⟨.one (.v (.bool (laws_FnExactStampsOf p0))), [], [], false⟩ := by
  refine FnOk.intro (E := env) envOk wide func3 rfl (by kernel_rfl) rfl rfl ?_
  have hg := laws_FnExactStampsOf.eq_1 p0
  have hown : ∀ g : Bool, AV.Own (AV.one (.v (.bool g))) := fun g => .v _
  refine seqE ?_
  refine seqE ?_
  refine seqE ?_
  refine .inl (⟨_, _, c_laws_szDeedS p0 1048576, (FzAs.same _), ?_⟩)
  refine litE (m := 1) rfl ?_
  refine seqE ?_
  refine seqE ?_
  refine brD hg (fun hg h1 => ?_) (fun hg h1 => ?_)
  · refine seqE ?_
    exact leafE hown hg
  have hz1 := szd_laws_szDeedS p0 1048576 (by assumption) (by decide) (by decide) (Int.not_lt.1 h1)
  have hs1 := hz1.1
  have hl1 : (laws_szDeedS p0 1048576) ≤ 1048576 := Int.le_trans hz1.2 (by decide)
  refine seqE ?_
  refine .inl (⟨_, _, c_laws_toDeedS p0 (by first | assumption | (simp only [id_laws_toDeedS]; assumption)), (FzAs.same _), ?_⟩)
  refine litE (m := 2) rfl ?_
  refine .inl (⟨_, _, c_spec_StampsOf (laws_toDeedS p0) (by first | assumption | (simp only [id_laws_toDeedS]; assumption)), (.cons (.one (.sl _ _ _ _ (frzMap frz_Deed _))) (.same _)), ?_⟩)
  refine litE (m := 4) rfl ?_
  refine seqE ?_
  refine .inl (⟨_, _, c_laws_toDeedS p0 (by first | assumption | (simp only [id_laws_toDeedS]; assumption)), (FzAs.same _), ?_⟩)
  refine litE (m := 6) rfl ?_
  refine seqE ?_
  refine .inl (⟨_, _, c_impl_StampsOf (laws_toDeedS p0) (by first | assumption | (simp only [id_laws_toDeedS]; assumption)), (.cons (.one (.sl _ _ _ _ (frzMap frz_Deed _))) (.same _)), ?_⟩)
  refine litE (m := 8) rfl ?_
  refine seqE ?_
  refine seqE ?_
  refine .inl (⟨_, _, c_laws_eqIntS (impl_StampsOf (laws_toDeedS p0)) (spec_StampsOf (laws_toDeedS p0)), (FzAs.same _), ?_⟩)
  refine litE (m := 10) rfl ?_
  refine brE hg (fun hg h2 => ?_) (fun hg h2 => ?_)
  · refine seqE ?_
    exact leafE hown hg
  · refine seqE ?_
    refine seqE ?_
    refine .inl (⟨_, _, c_laws_toDeedS p0 (by first | assumption | (simp only [id_laws_toDeedS]; assumption)), (FzAs.same _), ?_⟩)
    refine litE (m := 11) rfl ?_
    refine .inl (⟨_, _, c_laws_eqDeedS (laws_toDeedS p0) (laws_toDeedS p0), (.cons (.one (.sl _ _ _ _ (frzMap frz_Deed _))) (.cons (.one (.sl _ _ _ _ (frzMap frz_Deed _))) (.same _))), ?_⟩)
    refine litE (m := 13) rfl ?_
    refine brE hg (fun hg h3 => ?_) (fun hg h3 => ?_)
    · refine seqE ?_
      exact leafE hown hg
    · refine seqE ?_
      refine seqE ?_
      refine .inr ⟨0, _, _, _, c_laws_markDeedS (laws_toDeedS p0) 1, (FzAs.same _), .inl ?_⟩
      refine litE (m := 14) rfl ?_
      refine seqE ?_
      refine seqE ?_
      refine brDF hg (fun hg h4 => ?_) (fun hg h4 => ?_)
      · refine .inl (⟨_, _, c_laws_eqIntS (impl_StampsOf (laws_toDeedS p0)) (spec_StampsOf (laws_toDeedS p0)), (FzAs.same _), ?_⟩)
        refine litE (m := 15) rfl ?_
        refine brE hg (fun hg h5 => ?_) (fun hg h5 => ?_)
        · refine seqE ?_
          exact leafE hown hg
        · refine seqE ?_
          refine seqE ?_
          refine .inr ⟨0, _, _, _, c_laws_markIntS (impl_StampsOf (laws_toDeedS p0)) 1, (FzAs.same _), .inl ?_⟩
          refine litE (m := 16) rfl ?_
          refine seqE ?_
          refine seqE ?_
          refine .inl (⟨_, _, c_laws_heldIntS (laws_markIntS (impl_StampsOf (laws_toDeedS p0)) 1).2 1, (FzAs.same _), ?_⟩)
          refine litE (m := 17) rfl ?_
          refine seqE ?_
          refine seqE ?_
          refine brD hg (fun hg h6 => ?_) (fun hg h6 => ?_)
          · refine seqE ?_
            exact leafE hown hg
          · refine seqE ?_
            refine seqE ?_
            refine brW hg (fun hg h7 => ?_) (fun hg h7 => ?_)
            · refine seqE ?_
              exact leafE hown hg
            · refine seqE ?_
              refine .inl (⟨_, _, c_laws_toDeedS p0 (by first | assumption | (simp only [id_laws_toDeedS]; assumption)), (FzAs.same _), ?_⟩)
              refine litE (m := 18) rfl ?_
              refine .inl (⟨_, _, c_impl_StampsOf (laws_toDeedS p0) (by first | assumption | (simp only [id_laws_toDeedS]; assumption)), (.cons (.one (.sl _ _ _ _ (frzMap frz_Deed _))) (.same _)), ?_⟩)
              refine litE (m := 20) rfl ?_
              refine seqE ?_
              refine seqE ?_
              refine .inl (⟨_, _, c_laws_eqIntS (impl_StampsOf (laws_toDeedS p0)) (spec_StampsOf (laws_toDeedS p0)), (FzAs.same _), ?_⟩)
              refine litE (m := 22) rfl ?_
              refine brE hg (fun hg h8 => ?_) (fun hg h8 => ?_)
              · refine seqE ?_
                exact leafE hown hg
              · refine seqE ?_
                refine seqE ?_
                refine .inl (⟨_, _, c_laws_heldIntS (laws_markIntS (impl_StampsOf (laws_toDeedS p0)) 1).2 1, (FzAs.same _), ?_⟩)
                refine litE (m := 23) rfl ?_
                refine seqE ?_
                refine seqE ?_
                refine brD hg (fun hg h9 => ?_) (fun hg h9 => ?_)
                · refine seqE ?_
                  exact leafE hown hg
                · refine seqE ?_
                  refine seqE ?_
                  refine brW hg (fun hg h10 => ?_) (fun hg h10 => ?_)
                  · refine seqE ?_
                    exact leafE hown hg
                  · refine seqE ?_
                    exact leafE hown hg
      · refine seqE ?_
        exact leafE hown hg
theorem mk_IntS (l : List Int) (k : Int) (h1 : 1 ≤ k) (h2 : k + csum (fun _ => 1) l ≤ 9223372036854775807) : laws_markIntS l k = (k + csum (fun _ => 1) l, markL (fun _ k => k) (fun _ => 1) k l) := by
  unfold laws_markIntS
  have := mark_loop (mb := laws_markIntS_b1) (M := fun _ k => k) (c := fun _ => 1) (Pd := fun _ => True) (fun i s a _ h1 h2 => by unfold laws_markIntS_b1; simp (disch := omega) only [wrap_small]; rfl) l l [] k rfl (fun _ _ => trivial) h1 h2
  simp only [List.nil_append, List.length_nil] at this
  rw [this]; rfl
theorem hd_IntS (l : List Int) (k : Int) (h1 : 1 ≤ k) (h2 : k + csum (fun _ => 1) l ≤ 9223372036854775807) : laws_heldIntS (markL (fun _ k => k) (fun _ => 1) k l) k = k + csum (fun _ => 1) l := by
  unfold laws_heldIntS
  rw [held_loop (hb := laws_heldIntS_b1) (M := fun _ k => k) (c := fun _ => 1) (Pd := fun _ => True) (fun i s a _ h1 h2 => by unfold laws_heldIntS_b1; simp (disch := omega) only [wrap_small]; simp) l 0 k (fun _ _ => trivial) h1 h2]
  rfl
def mAttr (_ : Attr) (k : Int) : Attr := ⟨laws_markText k, Int.tmod (k + 1) 3 == 0, k + 1 + 1, laws_markText (k + 1 + 1 + 1)⟩
theorem mk_AttrS (l : List Attr) (k : Int) (h1 : 1 ≤ k) (h2 : k + csum (fun _ => 4) l ≤ 9223372036854775807) : laws_markAttrS l k = (k + csum (fun _ => 4) l, markL mAttr (fun _ => 4) k l) := by
  unfold laws_markAttrS
  have := mark_loop (mb := laws_markAttrS_b1) (M := mAttr) (c := fun _ => 4) (Pd := fun _ => True) (fun i s a _ h1 h2 => by unfold laws_markAttrS_b1; simp (disch := omega) only [wrap_small, mAttr]; simp [Int.add_assoc]) l l [] k rfl (fun _ _ => trivial) h1 h2
  simp only [List.nil_append, List.length_nil] at this
  rw [this]; rfl
def wDeed (a : Deed) (k : Int) : Deed := (Deed.mk k (IntKind.i64.wrap (k + 1)) (Span.mk (IntKind.i64.wrap ((IntKind.i64.wrap (k + 1)) + 1)) (IntKind.i64.wrap ((IntKind.i64.wrap ((IntKind.i64.wrap (k + 1)) + 1)) + 1)) (IntKind.i64.wrap ((IntKind.i64.wrap ((IntKind.i64.wrap ((IntKind.i64.wrap (k + 1)) + 1)) + 1)) + 1)) (IntKind.i64.wrap ((IntKind.i64.wrap ((IntKind.i64.wrap ((IntKind.i64.wrap ((IntKind.i64.wrap (k + 1)) + 1)) + 1)) + 1)) + 1)) ((Int.tmod (IntKind.i64.wrap ((IntKind.i64.wrap ((IntKind.i64.wrap ((IntKind.i64.wrap ((IntKind.i64.wrap ((IntKind.i64.wrap (k + 1)) + 1)) + 1)) + 1)) + 1)) + 1)) 3) == 0) (laws_markAttrS a.S.Attrs (IntKind.i64.wrap ((IntKind.i64.wrap ((IntKind.i64.wrap ((IntKind.i64.wrap ((IntKind.i64.wrap ((IntKind.i64.wrap ((IntKind.i64.wrap (k + 1)) + 1)) + 1)) + 1)) + 1)) + 1)) + 1))).2) (laws_markAttrS a.S.Attrs (IntKind.i64.wrap ((IntKind.i64.wrap ((IntKind.i64.wrap ((IntKind.i64.wrap ((IntKind.i64.wrap ((IntKind.i64.wrap ((IntKind.i64.wrap (k + 1)) + 1)) + 1)) + 1)) + 1)) + 1)) + 1))).1 (IntKind.i64.wrap ((laws_markAttrS a.S.Attrs (IntKind.i64.wrap ((IntKind.i64.wrap ((IntKind.i64.wrap ((IntKind.i64.wrap ((IntKind.i64.wrap ((IntKind.i64.wrap ((IntKind.i64.wrap (k + 1)) + 1)) + 1)) + 1)) + 1)) + 1)) + 1))).1 + 1)) (IntKind.i64.wrap ((IntKind.i64.wrap ((laws_markAttrS a.S.Attrs (IntKind.i64.wrap ((IntKind.i64.wrap ((IntKind.i64.wrap ((IntKind.i64.wrap ((IntKind.i64.wrap ((IntKind.i64.wrap ((IntKind.i64.wrap (k + 1)) + 1)) + 1)) + 1)) + 1)) + 1)) + 1))).1 + 1)) + 1)) ((Int.tmod (IntKind.i64.wrap ((IntKind.i64.wrap ((IntKind.i64.wrap ((laws_markAttrS a.S.Attrs (IntKind.i64.wrap ((IntKind.i64.wrap ((IntKind.i64.wrap ((IntKind.i64.wrap ((IntKind.i64.wrap ((IntKind.i64.wrap ((IntKind.i64.wrap (k + 1)) + 1)) + 1)) + 1)) + 1)) + 1)) + 1))).1 + 1)) + 1)) + 1)) 3) == 0) ((Int.tmod (IntKind.i64.wrap ((IntKind.i64.wrap ((IntKind.i64.wrap ((IntKind.i64.wrap ((laws_markAttrS a.S.Attrs (IntKind.i64.wrap ((IntKind.i64.wrap ((IntKind.i64.wrap ((IntKind.i64.wrap ((IntKind.i64.wrap ((IntKind.i64.wrap ((IntKind.i64.wrap (k + 1)) + 1)) + 1)) + 1)) + 1)) + 1)) + 1))).1 + 1)) + 1)) + 1)) + 1)) 3) == 0) (IntKind.i64.wrap ((IntKind.i64.wrap ((IntKind.i64.wrap ((IntKind.i64.wrap ((IntKind.i64.wrap ((laws_markAttrS a.S.Attrs (IntKind.i64.wrap ((IntKind.i64.wrap ((IntKind.i64.wrap ((IntKind.i64.wrap ((IntKind.i64.wrap ((IntKind.i64.wrap ((IntKind.i64.wrap (k + 1)) + 1)) + 1)) + 1)) + 1)) + 1)) + 1))).1 + 1)) + 1)) + 1)) + 1)) + 1)) (IntKind.i64.wrap ((IntKind.i64.wrap ((IntKind.i64.wrap ((IntKind.i64.wrap ((IntKind.i64.wrap ((IntKind.i64.wrap ((laws_markAttrS a.S.Attrs (IntKind.i64.wrap ((IntKind.i64.wrap ((IntKind.i64.wrap ((IntKind.i64.wrap ((IntKind.i64.wrap ((IntKind.i64.wrap ((IntKind.i64.wrap (k + 1)) + 1)) + 1)) + 1)) + 1)) + 1)) + 1))).1 + 1)) + 1)) + 1)) + 1)) + 1)) + 1)) (IntKind.i64.wrap ((IntKind.i64.wrap ((IntKind.i64.wrap ((IntKind.i64.wrap ((IntKind.i64.wrap ((IntKind.i64.wrap ((IntKind.i64.wrap ((laws_markAttrS a.S.Attrs (IntKind.i64.wrap ((IntKind.i64.wrap ((IntKind.i64.wrap ((IntKind.i64.wrap ((IntKind.i64.wrap ((IntKind.i64.wrap ((IntKind.i64.wrap (k + 1)) + 1)) + 1)) + 1)) + 1)) + 1)) + 1))).1 + 1)) + 1)) + 1)) + 1)) + 1)) + 1)) + 1)) (IntKind.i64.wrap ((IntKind.i64.wrap ((IntKind.i64.wrap ((IntKind.i64.wrap ((IntKind.i64.wrap ((IntKind.i64.wrap ((IntKind.i64.wrap ((IntKind.i64.wrap ((laws_markAttrS a.S.Attrs (IntKind.i64.wrap ((IntKind.i64.wrap ((IntKind.i64.wrap ((IntKind.i64.wrap ((IntKind.i64.wrap ((IntKind.i64.wrap ((IntKind.i64.wrap (k + 1)) + 1)) + 1)) + 1)) + 1)) + 1)) + 1))).1 + 1)) + 1)) + 1)) + 1)) + 1)) + 1)) + 1)) + 1)) (IntKind.i64.wrap ((IntKind.i64.wrap ((IntKind.i64.wrap ((IntKind.i64.wrap ((IntKind.i64.wrap ((IntKind.i64.wrap ((IntKind.i64.wrap ((IntKind.i64.wrap ((IntKind.i64.wrap ((laws_markAttrS a.S.Attrs (IntKind.i64.wrap ((IntKind.i64.wrap ((IntKind.i64.wrap ((IntKind.i64.wrap ((IntKind.i64.wrap ((IntKind.i64.wrap ((IntKind.i64.wrap (k + 1)) + 1)) + 1)) + 1)) + 1)) + 1)) + 1))).1 + 1)) + 1)) + 1)) + 1)) + 1)) + 1)) + 1)) + 1)) + 1)) (IntKind.i64.wrap ((IntKind.i64.wrap ((IntKind.i64.wrap ((IntKind.i64.wrap ((IntKind.i64.wrap ((IntKind.i64.wrap ((IntKind.i64.wrap ((IntKind.i64.wrap ((IntKind.i64.wrap ((IntKind.i64.wrap ((laws_markAttrS a.S.Attrs (IntKind.i64.wrap ((IntKind.i64.wrap ((IntKind.i64.wrap ((IntKind.i64.wrap ((IntKind.i64.wrap ((IntKind.i64.wrap ((IntKind.i64.wrap (k + 1)) + 1)) + 1)) + 1)) + 1)) + 1)) + 1))).1 + 1)) + 1)) + 1)) + 1)) + 1)) + 1)) + 1)) + 1)) + 1)) + 1)) (IntKind.i64.wrap ((IntKind.i64.wrap ((IntKind.i64.wrap ((IntKind.i64.wrap ((IntKind.i64.wrap ((IntKind.i64.wrap ((IntKind.i64.wrap ((IntKind.i64.wrap ((IntKind.i64.wrap ((IntKind.i64.wrap ((IntKind.i64.wrap ((laws_markAttrS a.S.Attrs (IntKind.i64.wrap ((IntKind.i64.wrap ((IntKind.i64.wrap ((IntKind.i64.wrap ((IntKind.i64.wrap ((IntKind.i64.wrap ((IntKind.i64.wrap (k + 1)) + 1)) + 1)) + 1)) + 1)) + 1)) + 1))).1 + 1)) + 1)) + 1)) + 1)) + 1)) + 1)) + 1)) + 1)) + 1)) + 1)) + 1)))
def cDeed (a : Deed) : Nat := 19 + csum (fun _ : Attr => 4) a.S.Attrs
theorem mk_DeedS (l : List Deed) (k : Int) (h1 : 1 ≤ k) (h2 : k + csum cDeed l ≤ 9223372036854775807) : laws_markDeedS l k = (k + csum cDeed l, markL wDeed cDeed k l) := by
  unfold laws_markDeedS
  have := mark_loop (mb := laws_markDeedS_b1) (M := wDeed) (c := cDeed) (Pd := fun _ => True) (fun i s a _ h1 h2 => by
    unfold laws_markDeedS_b1
    refine congrArg Step.next (Prod.ext rfl ?_)
    generalize s.1[i]?.getD default = x at h2 ⊢
    unfold cDeed at h2 ⊢
    simp (disch := omega) only [wrap_small]
    rw [mk_AttrS _ _ (by omega) (by omega)]
    simp (disch := omega) only [wrap_small]
    omega) l l [] k rfl (fun _ _ => trivial) h1 h2
  simp only [List.nil_append, List.length_nil] at this
  rw [this]; rfl
theorem cDeed_le (p0 : List Deed) (h : bdS Deed.bd 1048576 p0) : csum cDeed p0 ≤ 4503599627370496 := by
  have h1 : ∀ a ∈ p0, cDeed a ≤ 4294967296 := fun a ha => by
    have h2 : a.S.Attrs.length ≤ 1048576 := (h.2 a ha).1
    unfold cDeed
    rw [csum_const]; omega
  have := csum_le h1
  have h3 := h.1
  omega
/-- What is done with the arguments' marks. -/
theorem marked_DeedS (p0 : List Deed) (h : bdS Deed.bd 1048576 p0) : decide ((laws_markDeedS p0 1).1 < 0) = false := by
  have := cDeed_le p0 h
  rw [mk_DeedS p0 1 (by omega) (by omega)]
  simp only [decide_eq_false_iff_not]
  omega
/-- Two rising lists of the same members are the same. -/
theorem rising_eq : ∀ l m : List Int, l.Pairwise (· < ·) → m.Pairwise (· < ·) → (∀ x, x ∈ l ↔ x ∈ m) → l = m
  | [], [], _, _, _ => rfl
  | [], b :: m, _, _, h => absurd ((h b).2 (by simp)) (by simp)
  | a :: l, [], _, _, h => absurd ((h a).1 (by simp)) (by simp)
  | a :: l, b :: m, hl, hm, h => by
    have hl1 := List.pairwise_cons.1 hl
    have hm1 := List.pairwise_cons.1 hm
    have e : a = b := by
      have h1 := (h a).1 (by simp)
      have h2 := (h b).2 (by simp)
      rcases List.mem_cons.1 h1 with h1 | h1
      · exact h1
      · rcases List.mem_cons.1 h2 with h2 | h2
        · exact h2.symm
        · have := hm1.1 a h1
          have := hl1.1 b h2
          omega
    subst e
    refine congrArg (a :: ·) (rising_eq l m hl1.2 hm1.2 (fun x => ⟨fun hx => ?_, fun hx => ?_⟩))
    · rcases List.mem_cons.1 ((h x).1 (List.mem_cons_of_mem _ hx)) with q | q
      · have := hl1.1 x hx; omega
      · exact q
    · rcases List.mem_cons.1 ((h x).2 (List.mem_cons_of_mem _ hx)) with q | q
      · have := hm1.1 x hx; omega
      · exact q
theorem compactUpTo_rising (d : Array Int) (hd : ∀ i j, i ≤ j → j < d.size → d[i]! ≤ d[j]!) : ∀ m, m ≤ d.size → (Lib.compactUpTo d m).Pairwise (· < ·) ∧ ∀ x, x ∈ Lib.compactUpTo d m ↔ ∃ j, j < m ∧ d[j]! = x
  | 0, _ => by
    have e : Lib.compactUpTo d 0 = [] := rfl
    rw [e]
    refine ⟨List.Pairwise.nil, fun x => ⟨fun h => (by cases h), fun ⟨j, h, _⟩ => (by omega)⟩⟩
  | m + 1, hm => by
    obtain ⟨h1, h2⟩ := compactUpTo_rising d hd m (by omega)
    rw [Lib.compactUpTo_succ]
    by_cases hk : Lib.keeps d m = true
    · rw [if_pos hk]
      have hk' : m = 0 ∨ d[m]! ≠ d[m - 1]! := by simpa [Lib.keeps] using hk
      refine ⟨List.pairwise_append.2 ⟨h1, List.pairwise_singleton _ _, fun a ha b hb => ?_⟩, fun x => ?_⟩
      · rw [List.mem_singleton.1 hb]
        obtain ⟨j, hj, rfl⟩ := (h2 a).1 ha
        rcases hk' with h | h
        · omega
        · have q1 := hd j (m - 1) (by omega) (by omega)
          have q2 := hd (m - 1) m (by omega) (by omega)
          omega
      · rw [List.mem_append, h2, List.mem_singleton]
        constructor
        · rintro (⟨j, hj, e⟩ | e)
          · exact ⟨j, by omega, e⟩
          · exact ⟨m, by omega, e.symm⟩
        · rintro ⟨j, hj, e⟩
          by_cases hjm : j = m
          · subst hjm; exact .inr e.symm
          · exact .inl ⟨j, by omega, e⟩
    · rw [if_neg hk, List.append_nil]
      have hk' : ¬ m = 0 ∧ d[m]! = d[m - 1]! := by
        have := hk
        simp only [Lib.keeps, decide_eq_true_eq, not_or, Decidable.not_not] at this
        exact this
      refine ⟨h1, fun x => ?_⟩
      rw [h2]
      constructor
      · rintro ⟨j, hj, e⟩
        exact ⟨j, by omega, e⟩
      · rintro ⟨j, hj, e⟩
        by_cases hjm : j = m
        · subst hjm; exact ⟨j - 1, by omega, by rw [← e, hk'.2]⟩
        · exact ⟨j, by omega, e⟩
theorem compact_sortI (l : List Int) : (Lib.compact (sortI l)).Pairwise (· < ·) ∧ ∀ x, x ∈ Lib.compact (sortI l) ↔ x ∈ l := by
  have hs : (sortI l).Pairwise fun x y => decide (x ≤ y) = true := List.pairwise_mergeSort (fun a b c h1 h2 => by simp only [decide_eq_true_eq] at *; omega) (fun a b => by simp only [Bool.or_eq_true, decide_eq_true_eq]; omega) l
  have hp : (sortI l).Perm l := List.mergeSort_perm l _
  have hd : ∀ i j, i ≤ j → j < (sortI l).toArray.size → (sortI l).toArray[i]! ≤ (sortI l).toArray[j]! := by
    intro i j hij hj
    have hj' : j < (sortI l).length := by simpa using hj
    have hi' : i < (sortI l).length := by omega
    rw [getElem!_pos (sortI l).toArray i (by simpa using hi'), getElem!_pos (sortI l).toArray j hj]
    simp only [List.getElem_toArray]
    by_cases h : i = j
    · subst h; exact Int.le_refl _
    · simpa using List.pairwise_iff_getElem.1 hs i j hi' hj' (by omega)
  obtain ⟨h1, h2⟩ := compactUpTo_rising (sortI l).toArray hd (sortI l).length (by simp)
  refine ⟨h1, fun x => (h2 x).trans ?_⟩
  rw [← hp.mem_iff, List.mem_iff_getElem]
  constructor
  · rintro ⟨j, hj, e⟩
    rw [getElem!_pos (sortI l).toArray j (by simpa using hj)] at e
    exact ⟨j, hj, by simpa using e⟩
  · rintro ⟨j, hj, e⟩
    refine ⟨j, hj, ?_⟩
    rw [getElem!_pos (sortI l).toArray j (by simpa using hj)]
    simpa using e
theorem insN_gt (s : List Int) (x : Int) : ∀ n j, insN (fun a : Int => a) s x n ≤ j → j < n → x < s[j]?.getD default
  | 0, j, _, h => by omega
  | n + 1, j, h1, h2 => by
    unfold insN at h1
    split at h1
    · by_cases hj : j = n
      · subst hj; assumption
      · exact insN_gt s x n j h1 (by omega)
    · omega
theorem insN_low (s : List Int) (x : Int) : ∀ n, insN (fun a : Int => a) s x n = 0 ∨ s[insN (fun a : Int => a) s x n - 1]?.getD default ≤ x
  | 0 => .inl rfl
  | n + 1 => by
    unfold insN
    split
    · exact insN_low s x n
    · right
      have : n + 1 - 1 = n := by omega
      rw [this]; omega
theorem ins_rising (s : List Int) (x : Int) (hs : s.Pairwise (· < ·)) (hx : x ∉ s) : (ins (fun a : Int => a) s x).Pairwise (· < ·) := by
  have hk := insN_le (fun a : Int => a) s x s.length
  have hg := insN_gt s x s.length
  have hl := insN_low s x s.length
  have hp := List.pairwise_iff_getElem.1 hs
  unfold ins
  generalize insN (fun a : Int => a) s x s.length = k at hk hg hl
  have h1 : ∀ a ∈ s.take k, a < x := by
    intro a ha
    obtain ⟨j, hj, e⟩ := List.mem_iff_getElem.1 ha
    have hj1 : j < k := by simp only [List.length_take] at hj; omega
    have hj2 : j < s.length := by omega
    have e1 : s[j] = a := by rw [← e]; simp
    have hne : a ≠ x := by rintro rfl; exact hx (e1 ▸ List.getElem_mem hj2)
    rcases hl with hl | hl
    · omega
    · rw [List.getElem?_eq_getElem (by omega : k - 1 < s.length)] at hl
      simp only [Option.getD_some] at hl
      by_cases hjk : j = k - 1
      · subst hjk; omega
      · have := hp j (k - 1) hj2 (by omega) (by omega); omega
  have h2 : ∀ b ∈ s.drop k, x < b := by
    intro b hb
    obtain ⟨j, hj, e⟩ := List.mem_iff_getElem.1 hb
    have hj1 : k + j < s.length := by simp only [List.length_drop] at hj; omega
    have q := hg (k + j) (by omega) hj1
    rw [List.getElem?_eq_getElem hj1] at q
    have e1 : s[k + j] = b := by rw [← e]; simp
    rw [Option.getD_some, e1] at q
    exact q
  refine List.pairwise_append.2 ⟨hs.sublist (List.take_sublist _ _), List.pairwise_cons.2 ⟨h2, hs.sublist (List.drop_sublist _ _)⟩, fun a ha b hb => ?_⟩
  rcases List.mem_cons.1 hb with rfl | hb
  · exact h1 a ha
  · have := h1 a ha; have := h2 b hb; omega
theorem mem_ins (s : List Int) (x y : Int) : y ∈ ins (fun a : Int => a) s x ↔ y ∈ s ∨ y = x := by
  unfold ins
  generalize insN (fun a : Int => a) s x s.length = k
  have h : y ∈ s ↔ y ∈ s.take k ∨ y ∈ s.drop k := by
    rw [← List.mem_append, List.take_append_drop]
  rw [h, List.mem_append, List.mem_cons]
  constructor
  · rintro (h | h | h)
    · exact .inl (.inl h)
    · exact .inr h
    · exact .inl (.inr h)
  · rintro ((h | h) | h)
    · exact .inl h
    · exact .inr (.inr h)
    · exact .inr (.inl h)
theorem sst_while (s : List Int) (t : Deed) (hl : s.length ≤ 4503599627370496) : ∀ (n k : Nat), k ≤ n → k ≤ s.length → loopW (spec_StampsOf_b3 s t) n (k : Int) = .fin ((insN (fun a : Int => a) s t.Stamp k : Nat) : Int)
  | n, 0, _, _ => by
    have hb : spec_StampsOf_b3 s t ((0 : Nat) : Int) = .stop ((0 : Nat) : Int) := by unfold spec_StampsOf_b3; simp
    exact loopW_stop hb n
  | 0, k + 1, h, _ => by omega
  | n + 1, k + 1, h1, h2 => by
    have hd : decide (((k + 1 : Nat) : Int) > 0) = true := decide_eq_true (by omega)
    have w : IntKind.i64.wrap (((k + 1 : Nat) : Int) - 1) = (k : Int) := by rw [wrap_small (n := ((k + 1 : Nat) : Int) - 1)] <;> omega
    unfold insN
    by_cases hc : (s[k]?.getD default) > t.Stamp
    · have hb : spec_StampsOf_b3 s t ((k + 1 : Nat) : Int) = .next (k : Int) := by
        unfold spec_StampsOf_b3
        rw [hd, w]
        have : decide ((s[(k : Int).toNat]?.getD default) > t.Stamp) = true := decide_eq_true hc
        rw [this]; rfl
      unfold loopW
      rw [hb, if_pos hc]
      exact sst_while s t hl n k (by omega) (by omega)
    · have hb : spec_StampsOf_b3 s t ((k + 1 : Nat) : Int) = .stop ((k + 1 : Nat) : Int) := by
        unfold spec_StampsOf_b3
        rw [hd, w]
        have : decide ((s[(k : Int).toNat]?.getD default) > t.Stamp) = false := decide_eq_false hc
        rw [this]; rfl
      rw [if_neg hc]
      exact loopW_stop hb _
theorem l11Has_eq (l : List Int) (k : Int) : spec_l11Has l k = l.contains k := by
  unfold spec_l11Has
  have e : l.any (fun a => a == k) = l.contains k := by
    induction l with
    | nil => rfl
    | cons a l ih => simp only [List.any_cons, List.contains_cons, ih]; congr 1; exact Bool.eq_iff_iff.2 (by simp only [beq_iff_eq]; exact eq_comm)
  rcases any_loop (p := fun a => a == k) (r := fun _ => true) (b := spec_l11Has_b1 k) (fun _ _ _ => rfl) l 0 with ⟨h, j, e'⟩ | ⟨h, e'⟩
  · rw [e', ← e, h]; rfl
  · rw [e', ← e, h]; rfl
/-- The deeds whose stamp is told. -/
def stD (a : Deed) : Bool := a.Op == 1 && a.Lin != -1 && a.Code == 1 && decide (a.Stamp > 0)
theorem sst_b1 (i : Nat) (s : List Int) (t : Deed) (hl : s.length ≤ 4503599627370496) : spec_StampsOf_b1 i s t = .next (if stD t = true ∧ t.Stamp ∉ s then ins (fun a : Int => a) s t.Stamp else s) := by
  unfold spec_StampsOf_b1 stD
  by_cases h1 : t.Op = 1
  · by_cases h2 : t.Lin = -1
    · simp [h1, h2]
    · by_cases h3 : t.Code = 1
      · by_cases h4 : t.Stamp < 1
        · have : ¬ t.Stamp > 0 := by omega
          simp [h1, h2, h3, h4, this]
        · have h5 : t.Stamp > 0 := by omega
          by_cases h6 : t.Stamp ∈ s
          · simp [h1, h2, h3, h4, h5, l11Has_eq, h6]
          · have e0 : spec_l11Has s t.Stamp = false := by rw [l11Has_eq]; simpa using h6
            have e : loopW (spec_StampsOf_b3 s t) (Int.toNat ((s.length : Nat) : Int)) ((s.length : Nat) : Int) = .fin ((insN (fun a : Int => a) s t.Stamp s.length : Nat) : Int) := sst_while s t hl s.length s.length (Nat.le_refl _) (Nat.le_refl _)
            have ej : spec_StampsOf_j2 s t = .next ((insN (fun a : Int => a) s t.Stamp s.length : Nat) : Int) := by unfold spec_StampsOf_j2; rw [e]; rfl
            have el : (bif decide (t.Stamp < 1) then (Step.next s : Step (List Int) (List Int)) else Step.next (ins (fun a : Int => a) s t.Stamp)) = .next (ins (fun a : Int => a) s t.Stamp) := by rw [decide_eq_false h4]; rfl
            rw [e0, ej, decide_eq_false h4, decide_eq_true h5]
            simp only [h1, h3, bne_self_eq_false, cond_false, Step.get, h6, not_false_eq_true, and_true, beq_self_eq_true, Bool.true_and, Bool.and_true]
            have hb : (t.Lin == -1) = false := by simpa using h2
            have hn : (t.Lin != -1) = true := by simpa using h2
            rw [hb, hn]
            simp only [cond_false, if_true]
            unfold ins
            generalize insN (fun a : Int => a) s t.Stamp s.length = k
            rw [show (k : Int).toNat = k from rfl]
            have : List.take (s.length - k) (List.drop k s) = List.drop k s := List.take_of_length_le (by simp)
            rw [this]
            simp
      · have hb : (t.Code == 1) = false := by simpa using h3
        have hn : (t.Code != 1) = true := by simpa using h3
        rw [hb, hn]
        cases (t.Lin == -1) <;> simp
  · have hb : (t.Op == 1) = false := by simpa using h1
    have hn : (t.Op != 1) = true := by simpa using h1
    rw [hb, hn]; simp
theorem sst_loop : ∀ (l : List Deed) (i : Nat) (s : List Int), s.length + l.length ≤ 4503599627370496 → s.Pairwise (· < ·) → ∃ v, loopL spec_StampsOf_b1 i s l = .fin v ∧ v.length ≤ s.length + l.length ∧ v.Pairwise (· < ·) ∧ ∀ x, x ∈ v ↔ x ∈ s ∨ ∃ a ∈ l, stD a = true ∧ a.Stamp = x
  | [], i, s, h, hs => ⟨s, rfl, by simp, hs, fun x => ⟨.inl, fun h => h.elim id (fun ⟨a, ha, _⟩ => (by cases ha))⟩⟩
  | t :: l, i, s, h, hs => by
    simp only [List.length_cons] at h
    unfold loopL
    rw [sst_b1 i s t (by omega)]
    by_cases hc : stD t = true ∧ t.Stamp ∉ s
    · rw [if_pos hc]
      obtain ⟨v, e, hv, hp, hm⟩ := sst_loop l (i + 1) (ins (fun a : Int => a) s t.Stamp) (by rw [ins_len]; omega) (ins_rising s _ hs hc.2)
      rw [ins_len] at hv
      refine ⟨v, e, by simp only [List.length_cons]; omega, hp, fun x => ?_⟩
      rw [hm, mem_ins]
      constructor
      · rintro ((h | h) | ⟨a, ha, h1, h2⟩)
        · exact .inl h
        · exact .inr ⟨t, by simp, hc.1, h.symm⟩
        · exact .inr ⟨a, by simp [ha], h1, h2⟩
      · rintro (h | ⟨a, ha, h1, h2⟩)
        · exact .inl (.inl h)
        · rcases List.mem_cons.1 ha with rfl | ha
          · exact .inl (.inr h2.symm)
          · exact .inr ⟨a, ha, h1, h2⟩
    · rw [if_neg hc]
      obtain ⟨v, e, hv, hp, hm⟩ := sst_loop l (i + 1) s (by omega) hs
      refine ⟨v, e, by simp only [List.length_cons]; omega, hp, fun x => ?_⟩
      rw [hm]
      constructor
      · rintro (h | ⟨a, ha, h1, h2⟩)
        · exact .inl h
        · exact .inr ⟨a, by simp [ha], h1, h2⟩
      · rintro (h | ⟨a, ha, h1, h2⟩)
        · exact .inl h
        · rcases List.mem_cons.1 ha with rfl | ha
          · exact .inl (Decidable.byContradiction fun hn => hc ⟨h1, by rw [h2]; exact hn⟩)
          · exact .inr ⟨a, ha, h1, h2⟩
theorem ist_b1 (i : Nat) (s : List Int) (t : Deed) : impl_StampsOf_b1 i s t = .next (s ++ (if stD t then [t.Stamp] else [])) := by
  unfold impl_StampsOf_b1 impl_takenIn stD
  by_cases h1 : t.Op = 1
  · by_cases h2 : t.Lin = -1
    · simp [h1, h2]
    · have hn : (t.Lin != -1) = true := by simpa using h2
      by_cases h3 : t.Code = 1
      · by_cases h5 : t.Stamp > 0
        · rw [hn]; simp [h1, h3, h5]
        · rw [hn]; simp [h1, h3, h5]
      · have hb : (t.Code == 1) = false := by simpa using h3
        rw [hn, hb]; simp
  · have hb : (t.Op == 1) = false := by simpa using h1
    rw [hb]; simp
theorem main_StampsOf (p0 : List Deed) (h : p0.length ≤ 1048576) : impl_StampsOf p0 = spec_StampsOf p0 ∧ (spec_StampsOf p0).length ≤ 1048576 := by
  obtain ⟨v, e, hv, hp, hm⟩ := sst_loop p0 0 [] (by simpa using Nat.le_trans h (by omega)) List.Pairwise.nil
  have es : spec_StampsOf p0 = v := by unfold spec_StampsOf; rw [e]; rfl
  have ei : impl_StampsOf p0 = Lib.compact (sortI (p0.flatMap fun t => if stD t then [t.Stamp] else [])) := by
    unfold impl_StampsOf
    rw [app_flat (b := impl_StampsOf_b1) (fun t => if stD t then [t.Stamp] else []) ist_b1, List.nil_append]
    rfl
  have hc := compact_sortI (p0.flatMap fun t => if stD t then [t.Stamp] else [])
  refine ⟨?_, ?_⟩
  · rw [es, ei]
    refine rising_eq _ _ hc.1 hp fun x => ?_
    rw [hc.2, hm, List.mem_flatMap]
    constructor
    · rintro ⟨a, ha, hx⟩
      split at hx
      · exact .inr ⟨a, ha, by assumption, (List.mem_singleton.1 hx).symm⟩
      · cases hx
    · rintro (h | ⟨a, ha, h1, h2⟩)
      · cases h
      · exact ⟨a, ha, by rw [if_pos h1, h2]; simp⟩
  · rw [es]
    simp only [List.length_nil, Nat.zero_add] at hv
    omega
theorem law_StampsOf (p0 : List Deed) (hw0 : bdS Deed.bd 9223372036854775807 p0) : laws_FnExactStampsOf p0 = true := by
  unfold laws_FnExactStampsOf
  by_cases hd : laws_szDeedS p0 1048576 < 0
  · rw [decide_eq_true hd]; rfl
  · rw [decide_eq_false hd]
    have hs := (szd_laws_szDeedS p0 1048576 hw0 (by omega) (by omega) (by omega)).1
    obtain ⟨e, hl⟩ := main_StampsOf p0 hs.1
    have hk : (1 : Int) + csum (fun _ => 1) (spec_StampsOf p0) ≤ 9223372036854775807 := by rw [csum_const]; omega
    simp only [cond_false, id_laws_toDeedS, e, rf_laws_eqIntS, rf_laws_eqDeedS, Bool.not_true, marked_DeedS p0 hs, mk_IntS _ _ (Int.le_refl 1) hk, hd_IntS _ _ (Int.le_refl 1) hk, bne_self_eq_false]
    have : decide ((1 : Int) + csum (fun _ => 1) (spec_StampsOf p0) < 0) = false := by simp only [decide_eq_false_iff_not]; omega
    rw [this]; rfl
theorem rows_sl {α : Type} (f : α → List T) (W : α → Prop) : ∀ rows : List (List T), (∀ r ∈ rows, ∃ x, r = f x ∧ W x) → ∃ l : List α, rows = l.map f ∧ ∀ x ∈ l, W x
  | [], _ => ⟨[], rfl, by simp⟩
  | r :: rows, h => by
    obtain ⟨x, hx, hw⟩ := h r (by simp)
    obtain ⟨l, hl, hw'⟩ := rows_sl f W rows (fun r hr => h r (by simp [hr]))
    exact ⟨x :: l, by simp [hx, hl], fun y hy => by rcases List.mem_cons.1 hy with rfl | hy; exact hw; exact hw' y hy⟩
theorem shape_sl {α : Type} (f : α → List T) {P : Nat → α → Prop} (W : α → Prop) (hW : W = P 9223372036854775807) {n t e k : Nat} (ht : prog.underlying t = some (.slice e)) (hk : prog.cellsOf e = k) {y : List T} (h : Shape prog (n + 1) t y) (hr : ∀ r, Shape prog n e r → ∃ x, r = f x ∧ W x) :
    ∃ l : List α, y = [.s false k (l.map f)] ∧ bdS P 9223372036854775807 l := by
  subst hW
  unfold Shape at h
  rw [ht] at h
  obtain ⟨rows, h1, h2, h3⟩ := h
  rw [hk] at h1
  obtain ⟨l, rfl, hw⟩ := rows_sl f _ rows (fun r hr' => hr r (h3 r hr').2)
  exact ⟨l, h1, by simpa [maxLen] using h2, hw⟩
theorem shape3 (n : Nat) {l : List T} (h : Shape prog n 3 l) : ∃ x : Int, l = [.v (.int .i64 x)] ∧ True := by
  cases n with
  | zero => exact (h : False).elim
  | succ n =>
    simp only [Shape, underlying3] at h
    obtain ⟨x, hx, _⟩ := h
    exact ⟨x, hx, trivial⟩
theorem shape4 (n : Nat) {l : List T} (h : Shape prog n 4 l) : ∃ x : Bool, l = [.v (.bool x)] ∧ True := by
  cases n with
  | zero => exact (h : False).elim
  | succ n =>
    simp only [Shape, underlying4] at h
    obtain ⟨x, hx⟩ := h
    exact ⟨x, hx, trivial⟩
theorem shape9 (n : Nat) {l : List T} (h : Shape prog n 9 l) : ∃ x : ByteArray, l = [.v (.string x)] ∧ (x).size ≤ 9223372036854775807 := by
  cases n with
  | zero => exact (h : False).elim
  | succ n =>
    simp only [Shape, underlying9] at h
    obtain ⟨x, hx, hw⟩ := h
    exact ⟨x, hx, by simpa [maxLen] using hw⟩
theorem shape237 (n : Nat) {l : List T} (h : Shape prog n 237 l) : ∃ x : Attr, l = Attr.cells x ∧ Attr.bd 9223372036854775807 x := by
  cases n with
  | zero => exact (h : False).elim
  | succ n =>
    unfold Shape at h
    rw [underlying237] at h
    simp only [ShapeL] at h
    obtain ⟨_, _, rfl, h0, _, _, rfl, h1, _, _, rfl, h2, _, _, rfl, h3, rfl⟩ := h
    obtain ⟨x0, rfl, w0⟩ := shape9 n h0
    obtain ⟨x1, rfl, w1⟩ := shape4 n h1
    obtain ⟨x2, rfl, w2⟩ := shape3 n h2
    obtain ⟨x3, rfl, w3⟩ := shape9 n h3
    exact ⟨⟨x0, x1, x2, x3⟩, rfl, ⟨w0, w3⟩⟩
theorem shape94 (n : Nat) {l : List T} (h : Shape prog n 94 l) : ∃ x : (List Attr), l = [.s false 4 (List.map Attr.cells x)] ∧ bdS Attr.bd 9223372036854775807 x := by
  cases n with
  | zero => exact (h : False).elim
  | succ n =>
    exact shape_sl Attr.cells (P := Attr.bd) _ rfl underlying94 (by kernel_rfl) h (fun r hr => shape237 n hr)
theorem shape96 (n : Nat) {l : List T} (h : Shape prog n 96 l) : ∃ x : Span, l = (Span.cells false) x ∧ Span.bd 9223372036854775807 x := by
  cases n with
  | zero => exact (h : False).elim
  | succ n =>
    unfold Shape at h
    rw [underlying96] at h
    simp only [ShapeL] at h
    obtain ⟨_, _, rfl, h0, _, _, rfl, h1, _, _, rfl, h2, _, _, rfl, h3, _, _, rfl, h4, _, _, rfl, h5, rfl⟩ := h
    obtain ⟨x0, rfl, w0⟩ := shape3 n h0
    obtain ⟨x1, rfl, w1⟩ := shape3 n h1
    obtain ⟨x2, rfl, w2⟩ := shape3 n h2
    obtain ⟨x3, rfl, w3⟩ := shape3 n h3
    obtain ⟨x4, rfl, w4⟩ := shape4 n h4
    obtain ⟨x5, rfl, w5⟩ := shape94 n h5
    exact ⟨⟨x0, x1, x2, x3, x4, x5⟩, rfl, w5⟩
theorem shape98 (n : Nat) {l : List T} (h : Shape prog n 98 l) : ∃ x : Deed, l = (Deed.cells false) x ∧ Deed.bd 9223372036854775807 x := by
  cases n with
  | zero => exact (h : False).elim
  | succ n =>
    unfold Shape at h
    rw [underlying98] at h
    simp only [ShapeL] at h
    obtain ⟨_, _, rfl, h0, _, _, rfl, h1, _, _, rfl, h2, _, _, rfl, h3, _, _, rfl, h4, _, _, rfl, h5, _, _, rfl, h6, _, _, rfl, h7, _, _, rfl, h8, _, _, rfl, h9, _, _, rfl, h10, _, _, rfl, h11, _, _, rfl, h12, _, _, rfl, h13, _, _, rfl, h14, rfl⟩ := h
    obtain ⟨x0, rfl, w0⟩ := shape3 n h0
    obtain ⟨x1, rfl, w1⟩ := shape3 n h1
    obtain ⟨x2, rfl, w2⟩ := shape96 n h2
    obtain ⟨x3, rfl, w3⟩ := shape3 n h3
    obtain ⟨x4, rfl, w4⟩ := shape3 n h4
    obtain ⟨x5, rfl, w5⟩ := shape3 n h5
    obtain ⟨x6, rfl, w6⟩ := shape4 n h6
    obtain ⟨x7, rfl, w7⟩ := shape4 n h7
    obtain ⟨x8, rfl, w8⟩ := shape3 n h8
    obtain ⟨x9, rfl, w9⟩ := shape3 n h9
    obtain ⟨x10, rfl, w10⟩ := shape3 n h10
    obtain ⟨x11, rfl, w11⟩ := shape3 n h11
    obtain ⟨x12, rfl, w12⟩ := shape3 n h12
    obtain ⟨x13, rfl, w13⟩ := shape3 n h13
    obtain ⟨x14, rfl, w14⟩ := shape3 n h14
    exact ⟨⟨x0, x1, x2, x3, x4, x5, x6, x7, x8, x9, x10, x11, x12, x13, x14⟩, rfl, w2⟩
theorem shape22 (n : Nat) {l : List T} (h : Shape prog n 22 l) : ∃ x : (List Deed), l = [.s false 20 (List.map (Deed.cells false) x)] ∧ bdS Deed.bd 9223372036854775807 x := by
  cases n with
  | zero => exact (h : False).elim
  | succ n =>
    exact shape_sl (Deed.cells false) (P := Deed.bd) _ rfl underlying22 (by kernel_rfl) h (fun r hr => shape98 n hr)
theorem arg22 {n : Nat} {y : T} (h : Shape prog n 22 [y]) : ∃ x : (List Deed), y = .s false 20 (List.map (Deed.cells false) x) ∧ bdS Deed.bd 9223372036854775807 x := by
  obtain ⟨x, hx, hw⟩ := shape22 n h
  exact ⟨x, by simpa using hx, hw⟩
theorem law_c (p0 : (List Deed)) (h0 : bdS Deed.bd 9223372036854775807 p0) : FnOk prog 3 [.one (.s false 20 (List.map (Deed.cells false) p0))] ⟨.one (.v (.bool true)), [], [], false⟩ :=
  FnOk.fits ⟨_, func3, by kernel_rfl, by kernel_rfl⟩ (fun hf => by
    have h := c_laws_FnExactStampsOf p0 h0
    rw [law_StampsOf p0 h0] at h
    exact h)

end Go.Proofs.Try.Ev
