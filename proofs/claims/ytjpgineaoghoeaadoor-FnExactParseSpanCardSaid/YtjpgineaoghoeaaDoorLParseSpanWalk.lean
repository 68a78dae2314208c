import Derived.Test.YtjpgineaoghoeaaDoorLTabsParse
import Derived.Test.YtjpgineaoghoeaaDoorEvMk
import Derived.Test.YtjpgineaoghoeaaDoorLStrD
import Derived.Test.YtjpgineaoghoeaaDoorEvS
set_option linter.unusedSectionVars false
namespace Go.Proofs.Tryd.Ev
open Go Go.Ev Go.Proofs
set_option maxHeartbeats 4000000
set_option maxRecDepth 100000
set_option linter.unusedSimpArgs false
set_option linter.unusedVariables false
set_option linter.unusedSectionVars false
structure Attr where
  Key : ByteArray
  Num : Bool
  N : Int
  Text : ByteArray
deriving DecidableEq, Inhabited
def Attr.cells (x : Attr) : List T := [.v (.string x.Key), .v (.bool x.Num), .v (.int .i64 x.N), .v (.string x.Text)]
theorem own_Attr (x : Attr) : OwnL (Attr.cells x) := ⟨.v _, .v _, .v _, .v _, trivial⟩
theorem frz_Attr (x : Attr) : frzL (Attr.cells x) = Attr.cells x := rfl
theorem fz_Attr (x : Attr) : (Attr.cells x).map T.fz = Attr.cells x := rfl
theorem fl_Attr (x : Attr) : (Attr.cells x).map T.flat = Attr.cells x := rfl
def Attr.bd (M : Nat) (x : Attr) : Prop := x.Key.size ≤ M ∧ x.Text.size ≤ M
def Attr.rg (x : Attr) : Prop := (x.Key).size ≤ 9223372036854775807 ∧ True ∧ I64 x.N ∧ (x.Text).size ≤ 9223372036854775807 ∧ True
theorem rg_Attr {x : Attr} (h : fitL (Attr.cells x)) : Attr.rg x := ⟨(Nat.le_of_ble_eq_true h.1), trivial, (range_of_fit h.2.2.1), (Nat.le_of_ble_eq_true h.2.2.2.1), trivial⟩
theorem Attr.rg.Key {x : Attr} (h : Attr.rg x) : (x.Key).size ≤ 9223372036854775807 := h.1
theorem Attr.rg.N {x : Attr} (h : Attr.rg x) : I64 x.N := h.2.2.1
theorem Attr.rg.Text {x : Attr} (h : Attr.rg x) : (x.Text).size ≤ 9223372036854775807 := h.2.2.2.1
structure Span where
  Trace : Int
  Id : Int
  Start : Int
  End : Int
  Err : Bool
  Attrs : (List Attr)
deriving DecidableEq, Inhabited
def Span.cells (o : Bool) (x : Span) : List T := [.v (.int .i64 x.Trace), .v (.int .i64 x.Id), .v (.int .i64 x.Start), .v (.int .i64 x.End), .v (.bool x.Err), .s o 4 (List.map Attr.cells x.Attrs)]
theorem own_Span (x : Span) : OwnL (Span.cells true x) := ⟨.v _, .v _, .v _, .v _, .v _, ownSl own_Attr _, trivial⟩
theorem frz_Span {o : Bool} (x : Span) : frzL (Span.cells o x) = Span.cells false x := by
  show [T.v (.int .i64 x.Trace), T.v (.int .i64 x.Id), T.v (.int .i64 x.Start), T.v (.int .i64 x.End), T.v (.bool x.Err), T.s false 4 (frzLL (List.map Attr.cells x.Attrs))] = _
  rw [frzMap (f := Attr.cells) (g := Attr.cells) frz_Attr x.Attrs]
  rfl
theorem sh_Span (x : Span) : (Span.cells false x).map T.sh = Span.cells false x := rfl
theorem fz_Span {o : Bool} (x : Span) : (Span.cells o x).map T.fz = Span.cells false x := by
  show [T.v (.int .i64 x.Trace), T.v (.int .i64 x.Id), T.v (.int .i64 x.Start), T.v (.int .i64 x.End), T.v (.bool x.Err), T.s false 4 (frzLL (List.map Attr.cells x.Attrs))] = _
  rw [frzMap (f := Attr.cells) (g := Attr.cells) frz_Attr x.Attrs]
  rfl
def Span.bd (M : Nat) (x : Span) : Prop := bdS Attr.bd M x.Attrs
def Span.rg (x : Span) : Prop := I64 x.Trace ∧ I64 x.Id ∧ I64 x.Start ∧ I64 x.End ∧ True ∧ ((x.Attrs).length ≤ 9223372036854775807 ∧ ∀ y ∈ x.Attrs, Attr.rg y) ∧ True
theorem rg_Span {o : Bool} {x : Span} (h : fitL (Span.cells o x)) : Span.rg x := ⟨(range_of_fit h.1), (range_of_fit h.2.1), (range_of_fit h.2.2.1), (range_of_fit h.2.2.2.1), trivial, ⟨by simpa using h.2.2.2.2.2.1.1, fun y0 hy0 => (rg_Attr (fitLL_map h.2.2.2.2.2.1.2 y0 hy0))⟩, trivial⟩
theorem Span.rg.Trace {x : Span} (h : Span.rg x) : I64 x.Trace := h.1
theorem Span.rg.Id {x : Span} (h : Span.rg x) : I64 x.Id := h.2.1
theorem Span.rg.Start {x : Span} (h : Span.rg x) : I64 x.Start := h.2.2.1
theorem Span.rg.End {x : Span} (h : Span.rg x) : I64 x.End := h.2.2.2.1
theorem Span.rg.Attrs {x : Span} (h : Span.rg x) : ((x.Attrs).length ≤ 9223372036854775807 ∧ ∀ y ∈ x.Attrs, Attr.rg y) := h.2.2.2.2.2.1
structure l27Reader where
  f_s : ByteArray
  f_at : Int
  f_bad : Bool
deriving DecidableEq, Inhabited
def l27Reader.cells (x : l27Reader) : List T := [.v (.string x.f_s), .v (.int .i64 x.f_at), .v (.bool x.f_bad)]
theorem own_l27Reader (x : l27Reader) : OwnL (l27Reader.cells x) := ⟨.v _, .v _, .v _, trivial⟩
theorem frz_l27Reader (x : l27Reader) : frzL (l27Reader.cells x) = l27Reader.cells x := rfl
theorem fz_l27Reader (x : l27Reader) : (l27Reader.cells x).map T.fz = l27Reader.cells x := rfl
theorem fl_l27Reader (x : l27Reader) : (l27Reader.cells x).map T.flat = l27Reader.cells x := rfl
def l27Reader.bd (M : Nat) (x : l27Reader) : Prop := x.f_s.size ≤ M
def l27Reader.rg (x : l27Reader) : Prop := (x.f_s).size ≤ 9223372036854775807 ∧ I64 x.f_at ∧ True ∧ True
theorem rg_l27Reader {x : l27Reader} (h : fitL (l27Reader.cells x)) : l27Reader.rg x := ⟨(Nat.le_of_ble_eq_true h.1), (range_of_fit h.2.1), trivial, trivial⟩
theorem l27Reader.rg.f_s {x : l27Reader} (h : l27Reader.rg x) : (x.f_s).size ≤ 9223372036854775807 := h.1
theorem l27Reader.rg.f_at {x : l27Reader} (h : l27Reader.rg x) : I64 x.f_at := h.2.1
theorem wrapD (n : Int) : IntKind.i64.wrap n = if 9223372036854775808 ≤ n % 18446744073709551616 then n % 18446744073709551616 - 18446744073709551616 else n % 18446744073709551616 := by
  simp [IntKind.wrap, IntKind.bits, IntKind.signed]
theorem wrap_wrap_add (a b : Int) : IntKind.i64.wrap (IntKind.i64.wrap a + b) = IntKind.i64.wrap (a + b) := by
  rw [wrapD, wrapD, wrapD]
  split <;> split <;> split <;> omega
theorem wrap_add_wrap (a b : Int) : IntKind.i64.wrap (a + IntKind.i64.wrap b) = IntKind.i64.wrap (a + b) := by
  rw [Int.add_comm, wrap_wrap_add, Int.add_comm]
theorem wrap_idem (a : Int) : IntKind.i64.wrap (IntKind.i64.wrap a) = IntKind.i64.wrap a := by
  have := wrap_wrap_add a 0
  simpa using this
def isum {α : Type} (f : α → Int) : List α → Int
  | [] => 0
  | a :: l => f a + isum f l
theorem isum_append {α : Type} (f : α → Int) : ∀ (l m : List α), isum f (l ++ m) = isum f l + isum f m
  | [], m => by simp [isum]
  | a :: l, m => by simp only [List.cons_append, isum, isum_append f l m]; omega
theorem isum_flat {α β : Type} (f : β → Int) (g : α → List β) : ∀ l : List α, isum f (l.flatMap g) = isum (fun a => isum f (g a)) l
  | [] => rfl
  | a :: l => by rw [List.flatMap_cons, isum_append, isum, isum_flat f g l]
theorem sum_loop {α ρ : Type} {f : α → Int} {b : Nat → Int → α → Step Int ρ} : ∀ (l : List α) (i : Nat) (s : Int), IntKind.i64.wrap s = s → (∀ i s, ∀ a ∈ l, IntKind.i64.wrap s = s → b i s a = .next (IntKind.i64.wrap (s + f a))) → loopL b i s l = .fin (IntKind.i64.wrap (s + isum f l))
  | [], i, s, hs, hb => by simp [loopL, isum, hs]
  | a :: l, i, s, hs, hb => by
    unfold loopL
    rw [hb i s a (by simp) hs]
    simp only
    rw [sum_loop l (i + 1) _ (wrap_idem _) (fun i s x hx => hb i s x (by simp [hx])), wrap_wrap_add, isum, Int.add_assoc]
theorem app_loop {α β ρ : Type} {f : α → List β} {b : Nat → List β → α → Step (List β) ρ} (hb : ∀ i s a, b i s a = .next (s ++ f a)) : ∀ (l : List α) (i : Nat) (s : List β), loopL b i s l = .fin (s ++ l.flatMap f)
  | [], i, s => by simp [loopL]
  | a :: l, i, s => by
    unfold loopL
    rw [hb]
    simp only
    rw [app_loop hb l (i + 1), List.flatMap_cons, List.append_assoc]
theorem wrap_len {n : Nat} (h : n ≤ 9223372036854775807) : IntKind.i64.wrap ((n : Nat) : Int) = ((n : Nat) : Int) := Go.Ev.wrap_small (by omega) (by omega)
def ntInv (s : ByteArray × Int) : Prop := (s.1.size = 0 ∧ s.2.natAbs ≤ 9223372036854775808) ∨ s.1.size + s.2.natAbs ≤ 4611686018427387904
def ntM (s : ByteArray × Int) : Nat := s.2.natAbs
theorem size_str1 (c : Int) : (strOfNums [c]).size = 1 := rfl
theorem nt_abs {x : Int} (h : x.natAbs ≤ 9223372036854775808) : (IntKind.i64.wrap (x.tdiv 10)).natAbs = x.natAbs / 10 := by
  have e : (x.tdiv 10).natAbs = x.natAbs / 10 := by rw [Int.natAbs_tdiv]; rfl
  generalize x.tdiv 10 = q at e ⊢
  have hq : q.natAbs ≤ 922337203685477580 := by omega
  have hq1 : -9223372036854775808 ≤ q := by clear e; omega
  have hq2 : q ≤ 9223372036854775807 := by clear e; omega
  rw [Go.Ev.wrap_small hq1 hq2, e]
theorem nt_step {s : ByteArray} {x c : Int} (h : ntInv (s, x)) (hx : x ≠ 0) : ntInv (strOfNums [c] ++ s, IntKind.i64.wrap (x.tdiv 10)) ∧ ntM (strOfNums [c] ++ s, IntKind.i64.wrap (x.tdiv 10)) < ntM (s, x) := by
  unfold ntInv ntM at *
  simp only at h ⊢
  rw [nt_abs (by omega), ByteArray.size_append, size_str1]
  omega
theorem nt_cat {s : ByteArray} {x c : Int} (h : ntInv (s, x)) (hx : (x != 0) = true) : (((strOfNums [c]).size + s.size : Nat) : Int) ≤ 9223372036854775807 := by
  unfold ntInv at h
  simp only [bne_iff_ne] at h hx
  rw [size_str1]
  omega
theorem nt_cat2 {s : ByteArray} {x : Int} {b : UInt8} (h : ntInv (s, x)) : (((ByteArray.mk #[b]).size + s.size : Nat) : Int) ≤ 9223372036854775807 := by
  unfold ntInv at h
  simp only at h
  have : (ByteArray.mk #[b]).size = 1 := rfl
  omega
theorem bsz (a : Array UInt8) : (ByteArray.mk a).size = a.size := rfl
theorem loopC_all {σ : Type} {f : Nat → σ → Step σ Bool} (hd : ∀ i s r, f i s = .done r → r = false) : ∀ (n i : Nat) (s : σ), (∃ s', loopC f i s n = .fin s') ∨ loopC f i s n = .done false
  | 0, i, s => .inl ⟨s, rfl⟩
  | n + 1, i, s => by
    unfold loopC
    cases h : f i s with
    | next s' => exact loopC_all hd n (i + 1) s'
    | stop s' => exact .inl ⟨s', rfl⟩
    | done r => rw [hd i s r h]; exact .inr rfl
theorem loopL_all {α σ : Type} {f : Nat → σ → α → Step σ Bool} (hd : ∀ i s a r, f i s a = .done r → r = false) : ∀ (l : List α) (i : Nat) (s : σ), (∃ s', loopL f i s l = .fin s') ∨ loopL f i s l = .done false
  | [], i, s => .inl ⟨s, rfl⟩
  | a :: l, i, s => by
    unfold loopL
    cases h : f i s a with
    | next s' => exact loopL_all hd l (i + 1) s'
    | stop s' => exact .inl ⟨s', rfl⟩
    | done r => rw [hd i s a r h]; exact .inr rfl
theorem loopL_congr {α σ ρ : Type} {f g : Nat → σ → α → Step σ ρ} : ∀ (l : List α) (i : Nat) (s : σ), (∀ i s, ∀ a ∈ l, f i s a = g i s a) → loopL f i s l = loopL g i s l
  | [], i, s, _ => rfl
  | a :: l, i, s, h => by
    unfold loopL
    rw [h i s a (by simp)]
    cases g i s a with
    | next s' => exact loopL_congr l (i + 1) s' (fun i s x hx => h i s x (by simp [hx]))
    | _ => rfl
def mtInv (s : Int × ByteArray) : Prop := ntInv (s.2, s.1)
def mtM (s : Int × ByteArray) : Nat := ntM (s.2, s.1)
theorem mt_ne {x : Int} (h : decide (x > 0) = true) : x ≠ 0 := by have : x > 0 := by simpa using h
                                                                  omega
theorem mt_step {s : Int × ByteArray} {c : Int} (h : mtInv s) (hx : decide (s.1 > 0) = true) : mtInv (IntKind.i64.wrap (s.1.tdiv 10), strOfNums [c] ++ s.2) ∧ mtM (IntKind.i64.wrap (s.1.tdiv 10), strOfNums [c] ++ s.2) < mtM s := nt_step h (mt_ne hx)
theorem mt_cat {s : Int × ByteArray} {c : Int} (h : mtInv s) (hx : decide (s.1 > 0) = true) : (((strOfNums [c]).size + s.2.size : Nat) : Int) ≤ 9223372036854775807 := nt_cat h (by simpa using mt_ne hx)
theorem mt_cat2 {s : Int × ByteArray} {b : UInt8} (h : mtInv s) : (((ByteArray.mk #[b]).size + s.2.size : Nat) : Int) ≤ 9223372036854775807 := nt_cat2 h
theorem bif_ind {β : Type} {P : β → Prop} {c : Bool} {a b : β} (ha : c = true → P a) (hb : c = false → P b) : P (bif c then a else b) := by
  cases c
  · exact hb rfl
  · exact ha rfl
/-- Where a reader stands. -/
structure RdOk (r : l27Reader) : Prop where
  a0 : 0 ≤ r.f_at
  a1 : r.f_at ≤ ((r.f_s.size : Nat) : Int)
  a2 : r.f_s.size ≤ 1048576
/-- A reader, and where it stands later. -/
structure RdGe (r r' : l27Reader) : Prop where
  ok : RdOk r'
  s : r'.f_s = r.f_s
  ge : r.f_at ≤ r'.f_at
theorem RdGe.trans {a b c : l27Reader} (h : RdGe a b) (k : RdGe b c) : RdGe a c := ⟨k.ok, k.s.trans h.s, Int.le_trans h.ge k.ge⟩
theorem rdE {α : Type} {r : l27Reader} {x v : α × l27Reader} (e : v = x) (h : RdGe r x.2) : RdGe r v.2 := by rw [e]; exact h
theorem rdM {r x v : l27Reader} (e : v = x) (h : RdGe r x) : RdGe r v := by rw [e]; exact h
/-- How far the bytes of a kind reach. -/
def scanTo (f : UInt8 → Bool) (s : ByteArray) (k : Nat) : Nat := k + ((s.data.toList.drop k).takeWhile f).length
theorem scanTo_le {f : UInt8 → Bool} {s : ByteArray} {k : Nat} (h : k ≤ s.size) : k ≤ scanTo f s k ∧ scanTo f s k ≤ s.size := by
  unfold scanTo
  have h1 := List.takeWhile_prefix (l := s.data.toList.drop k) f
  have h2 := h1.length_le
  rw [List.length_drop] at h2
  have h3 : s.data.toList.length = s.size := by rw [Array.length_toList]; rfl
  omega
theorem scan_hit {f : UInt8 → Bool} {s : ByteArray} {k : Nat} (h : k < s.size) (hf : f (s.data.getD k 0) = true) : scanTo f s k = scanTo f s (k + 1) := by
  unfold scanTo
  have hk : k < s.data.toList.length := by rw [Array.length_toList]; exact h
  rw [List.drop_eq_getElem_cons hk]
  have e : s.data.toList[k] = s.data.getD k 0 := by simp [Array.getD, show k < s.data.size from h]; intro hx; omega
  rw [List.takeWhile_cons, if_pos (by rw [e]; exact hf), List.length_cons]
  omega
theorem scan_miss {f : UInt8 → Bool} {s : ByteArray} {k : Nat} (h : k < s.size) (hf : f (s.data.getD k 0) = false) : scanTo f s k = k := by
  unfold scanTo
  have hk : k < s.data.toList.length := by rw [Array.length_toList]; exact h
  rw [List.drop_eq_getElem_cons hk]
  have e : s.data.toList[k] = s.data.getD k 0 := by simp [Array.getD, show k < s.data.size from h]; intro hx; omega
  rw [List.takeWhile_cons, if_neg (by rw [e, hf]; decide)]
  simp
theorem scan_end {f : UInt8 → Bool} {s : ByteArray} {k : Nat} (h : s.size ≤ k) : scanTo f s k = k := by
  unfold scanTo
  have : s.data.toList.drop k = [] := List.drop_eq_nil_iff.2 (by rw [Array.length_toList]; exact h)
  rw [this]; rfl
theorem scan_loop {ρ : Type} {b : Int → Step Int ρ} {s : ByteArray} {f : UInt8 → Bool} (hb : ∀ k : Nat, k < s.size → b k = bif f (s.data.getD k 0) then .next ((k + 1 : Nat) : Int) else .stop k) (he : ∀ k : Nat, s.size ≤ k → b k = .stop k) : ∀ (n k : Nat), s.size - k ≤ n → loopW b n k = .fin ((scanTo f s k : Nat) : Int) := by
  intro n
  induction n with
  | zero =>
    intro k h
    rw [scan_end (by omega)]
    unfold loopW
    rw [he k (by omega)]; rfl
  | succ n ih =>
    intro k h
    by_cases hk : k < s.size
    · unfold loopW
      rw [hb k hk]
      cases hf : f (s.data.getD k 0) with
      | true => rw [cond_true, scan_hit hk hf]; exact ih (k + 1) (by omega)
      | false => rw [cond_false, scan_miss hk hf]; rfl
    · rw [scan_end (by omega)]
      unfold loopW
      rw [he k (by omega)]; rfl
theorem rd0 {s : ByteArray} (h : s.size ≤ 1048576) : RdOk ⟨s, 0, false⟩ := ⟨Int.le_refl 0, Int.natCast_nonneg _, h⟩
def spInv (s : List Attr × ByteArray × Int × Bool) : Prop := RdOk ⟨s.2.1, s.2.2.1, s.2.2.2⟩ ∧ (s.1.length : Int) ≤ s.2.2.1
def spM (s : List Attr × ByteArray × Int × Bool) : Nat := s.2.1.size - s.2.2.1.toNat
theorem sp_step {l : List Attr} {a : Attr} {s s' : ByteArray} {i i' : Int} {b b' : Bool} (hI : RdOk ⟨s, i, b⟩ ∧ (l.length : Int) ≤ i) (G : RdGe ⟨s, i, b⟩ ⟨s', i', b'⟩) (g : i + 1 ≤ i') : spInv (l ++ [a], s', i', b') ∧ spM (l ++ [a], s', i', b') < spM (l, s, i, b) := by
  obtain ⟨hI, hl⟩ := hI
  have a0 : 0 ≤ i := hI.a0
  have h1 : i' ≤ ((s'.size : Nat) : Int) := G.ok.a1
  have e : s' = s := G.s
  subst e
  refine ⟨⟨G.ok, ?_⟩, ?_⟩
  · show ((l ++ [a]).length : Int) ≤ i'
    rw [List.length_append, List.length_cons, List.length_nil]; omega
  · show s'.size - i'.toNat < s'.size - i.toNat
    omega
def laws_markText_b1 (s1 : Int × ByteArray) : Step (Int × ByteArray) ByteArray :=
  (bif (decide (s1.1 > 0)) then (.next ((IntKind.i64.wrap (Int.tdiv s1.1 10)), ((strOfNums [(IntKind.u8.wrap (IntKind.i64.wrap (48 + (Int.tmod s1.1 10))))]) ++ s1.2))) else (.stop (s1.1, s1.2)))
def laws_markText (p0 : Int) : ByteArray :=
  (bif (decide (p0 ≤ 0)) then (ByteArray.mk #[109, 48]) else (Fin.get (fun s1 => ((ByteArray.mk #[109]) ++ s1.2)) (loopW laws_markText_b1 (mtM (p0, (ByteArray.mk #[]))) (p0, (ByteArray.mk #[])))))
theorem cr_laws_markText (p0 : Int) (hr0 : I64 p0) : FnOk prog 57 [.one (.v (.int .i64 p0))] ⟨.one (.v (.string (laws_markText p0))), [], [], false⟩ := by
  refine FnOk.intro (E := env) envOk wide func57 rfl (by kernel_rfl) rfl rfl ?_
  have hg := laws_markText.eq_1 p0
  have hown : ∀ g : ByteArray, AV.Own (AV.one (.v (.string g))) := fun g => .v _
  refine seqE ?_
  refine seqE ?_
  refine seqE ?_
  refine brD hg (fun hg h1 => ?_) (fun hg h1 => ?_)
  · refine seqE ?_
    exact leafE hown hg
  · refine seqE ?_
    refine seqE ?_
    refine loopWE (m := mtM) (s0 := (p0, (ByteArray.mk #[]))) mtInv hg (by left; have := hr0.1; have := hr0.2; exact ⟨rfl, by show Int.natAbs p0 ≤ _; omega⟩) [] (fun x1 => [(0, .one (.v (.int .i64 x1.s.1))), (3, .one (.v (.string x1.s.2)))]) (fun x1 => []) [] ?_ (fun x1 => ?_)
    · exact ⟨rfl, ⟨rfl, rfl, trivial⟩, trivial, trivial⟩
    have hI1 := x1.hI
    try dsimp only at hI1
    have hb1 := x1.bdy.trans (laws_markText_b1.eq_1 ..)
    refine seqE ?_
    refine seqE ?_
    refine brD hb1 (fun hb1 h2 => ?_) (fun hb1 h2 => ?_)
    · refine seqE ?_
      refine andE (by (first | omega | (simp (disch := omega) only [wrap_small, mid_eq, List.length_map]; omega) | (simp; done) | (simp; omega) | (simp at *; omega) | (simp at *; done) | (simp_all; done) | (simp_all; omega))) ?_
      refine .inl (litE (m := 0) rfl ?_)
      refine andE (by first | exact mt_cat x1.hI (by assumption) | exact mt_cat2 x1.hI) ?_
      refine andE (by (first | omega | (simp (disch := omega) only [wrap_small, mid_eq, List.length_map]; omega) | (simp; done) | (simp; omega) | (simp at *; omega) | (simp at *; done) | (simp_all; done) | (simp_all; omega))) ?_
      exact x1.goE hb1 (show mtInv ((IntKind.i64.wrap (Int.tdiv x1.s.1 10)), ((strOfNums [(IntKind.u8.wrap (IntKind.i64.wrap (48 + (Int.tmod x1.s.1 10))))]) ++ x1.s.2)) ∧ mtM ((IntKind.i64.wrap (Int.tdiv x1.s.1 10)), ((strOfNums [(IntKind.u8.wrap (IntKind.i64.wrap (48 + (Int.tmod x1.s.1 10))))]) ++ x1.s.2)) < mtM x1.s by exact mt_step x1.hI (by first | assumption | (simpa using h3) | (simpa using h2))) [] ⟨rfl, ⟨rfl, rfl, trivial⟩, trivial, trivial⟩
    · have hg := finE hg (x1.outS hb1)
      refine seqE ?_
      refine andE (by first | exact mt_cat x1.hI (by assumption) | exact mt_cat2 x1.hI) ?_
      exact leafE hown hg
theorem c_laws_markText (p0 : Int) : FnOk prog 57 [.one (.v (.int .i64 p0))] ⟨.one (.v (.string (laws_markText p0))), [], [], false⟩ :=
  FnOk.fits ⟨_, func57, by kernel_rfl, by kernel_rfl⟩ (fun hf => cr_laws_markText p0 (range_of_fit hf.1))
def impl_within (p0 : Int) (p1 : Int) (p2 : Int) : Bool :=
  (bif (decide (p0 ≥ p1)) then (decide (p0 ≤ p2)) else false)
theorem c_impl_within (p0 : Int) (p1 : Int) (p2 : Int) : FnOk prog 50 [.one (.v (.int .i64 p0)), .one (.v (.int .i64 p1)), .one (.v (.int .i64 p2))] ⟨.one (.v (.bool (impl_within p0 p1 p2))), [], [], false⟩ := by
  refine FnOk.intro (E := env) envOk wide func50 rfl (by kernel_rfl) rfl rfl ?_
  have hg := impl_within.eq_1 p0 p1 p2
  have hown : ∀ g : Bool, AV.Own (AV.one (.v (.bool g))) := fun g => .v _
  refine seqE ?_
  refine seqE ?_
  exact brD hg (fun hg h1 => leafE hown hg) (fun hg h1 => leafE hown hg)
def impl_NameOk_b1 (p0 : ByteArray) (i1 : Nat) (s1 : Unit) : Step (Unit) Bool :=
  (bif (decide ((((p0).data.getD i1 0).toNat : Int) < 97)) then (.done false) else (bif (decide ((((p0).data.getD i1 0).toNat : Int) > 122)) then (.done false) else (.next ())))
def impl_NameOk (p0 : ByteArray) : Bool :=
  (Fin.get (fun s1 => (impl_within (((p0).size : Nat) : Int) 1 8)) (loopC (impl_NameOk_b1 p0) 0 () (p0).size))
theorem c_impl_NameOk (p0 : ByteArray) : FnOk prog 92 [.one (.v (.string p0))] ⟨.one (.v (.bool (impl_NameOk p0))), [], [], false⟩ := by
  refine FnOk.intro (E := env) envOk wide func92 rfl (by kernel_rfl) rfl rfl ?_
  have hg := impl_NameOk.eq_1 p0
  have hown : ∀ g : Bool, AV.Own (AV.one (.v (.bool g))) := fun g => .v _
  refine seqE ?_
  refine seqE ?_
  refine seqE ?_
  refine loopCE hg [0] (fun x1 => [(3, .one (.v (.int .i64 ((x1.i : Nat) : Int))))]) (fun x1 => []) [] ?_ (fun x1 => ?_)
  · exact ⟨rfl, ⟨rfl, rfl, trivial⟩, trivial, trivial⟩
  refine seqE ?_
  refine seqE ?_
  refine lenS fun hN1 => ?_
  refine tstL (fun hi1 => ?_) (fun hi1 => ?_)
  · have hb1 := (x1.bdy hi1).trans (impl_NameOk_b1.eq_1 ..)
    have hw1 := wrap_succ hi1 (by first | assumption | omega)
    refine seqE ?_
    refine seqE ?_
    refine andE (by (first | omega | (simp (disch := omega) only [wrap_small, mid_eq, List.length_map]; omega) | (simp; done) | (simp; omega) | (simp at *; omega) | (simp at *; done) | (simp_all; done) | (simp_all; omega))) ?_
    refine brDF hb1 (fun hb1 h2 => ?_) (fun hb1 h2 => ?_)
    · refine andE (by (first | omega | (simp (disch := omega) only [wrap_small, mid_eq, List.length_map]; omega) | (simp; done) | (simp; omega) | (simp at *; omega) | (simp at *; done) | (simp_all; done) | (simp_all; omega))) ?_
      refine brD hb1 (fun hb1 h3 => ?_) (fun hb1 h3 => x1.goE hi1 hb1 [] ⟨rfl, ⟨(eqInt hw1), rfl, trivial⟩, trivial, trivial⟩)
      refine seqE ?_
      have hg := donE hg (x1.outD hi1 hb1)
      exact leafE hown hg
    · refine seqE ?_
      have hg := donE hg (x1.outD hi1 hb1)
      exact leafE hown hg
  have hg := finE hg (x1.fin hi1)
  refine seqE ?_
  refine lenS fun hN4 => ?_
  refine .inl (⟨_, _, c_impl_within (((p0).size : Nat) : Int) 1 8, (FzAs.same _), ?_⟩)
  refine litE (m := 1) rfl ?_
  exact leafE hown hg
theorem impl_NameOk_all (s : ByteArray) : ∀ i u r, impl_NameOk_b1 s i u = .done r → r = false := by
  intro i u r hr
  unfold impl_NameOk_b1 at hr
  simp only [Bool.cond_eq_ite] at hr
  repeat' split at hr
  all_goals (first | (cases hr; rfl) | cases hr)
theorem impl_NameOk_size {s : ByteArray} (h : impl_NameOk s = true) : s.size ≤ 8 := by
  unfold impl_NameOk at h
  rcases loopC_all (impl_NameOk_all s) s.size 0 () with ⟨u, e⟩ | e
  · rw [e] at h
    simp [Fin.get, impl_within, Bool.cond_eq_ite] at h
    omega
  · rw [e] at h; cases h
def impl_PlainOk_b1 (p0 : ByteArray) (i1 : Nat) (s1 : Unit) : Step (Unit) Bool :=
  (bif (!(impl_within (IntKind.i64.wrap (((p0).data.getD i1 0).toNat : Int)) 32 126)) then (.done false) else (bif ((((p0).data.getD i1 0).toNat : Int) == 34) then (.done false) else (.next ())))
def impl_PlainOk (p0 : ByteArray) : Bool :=
  (Fin.get (fun s1 => (decide ((((p0).size : Nat) : Int) ≤ 20))) (loopC (impl_PlainOk_b1 p0) 0 () (p0).size))
theorem c_impl_PlainOk (p0 : ByteArray) : FnOk prog 93 [.one (.v (.string p0))] ⟨.one (.v (.bool (impl_PlainOk p0))), [], [], false⟩ := by
  refine FnOk.intro (E := env) envOk wide func93 rfl (by kernel_rfl) rfl rfl ?_
  have hg := impl_PlainOk.eq_1 p0
  have hown : ∀ g : Bool, AV.Own (AV.one (.v (.bool g))) := fun g => .v _
  refine seqE ?_
  refine seqE ?_
  refine seqE ?_
  refine loopCE hg [0] (fun x1 => [(3, .one (.v (.int .i64 ((x1.i : Nat) : Int))))]) (fun x1 => []) [] ?_ (fun x1 => ?_)
  · exact ⟨rfl, ⟨rfl, rfl, trivial⟩, trivial, trivial⟩
  refine seqE ?_
  refine seqE ?_
  refine lenS fun hN1 => ?_
  refine tstL (fun hi1 => ?_) (fun hi1 => ?_)
  · have hb1 := (x1.bdy hi1).trans (impl_PlainOk_b1.eq_1 ..)
    have hw1 := wrap_succ hi1 (by first | assumption | omega)
    refine seqE ?_
    refine seqE ?_
    refine andE (by (first | omega | (simp (disch := omega) only [wrap_small, mid_eq, List.length_map]; omega) | (simp; done) | (simp; omega) | (simp at *; omega) | (simp at *; done) | (simp_all; done) | (simp_all; omega))) ?_
    refine .inl (⟨_, _, c_impl_within (IntKind.i64.wrap (((p0).data.getD x1.i 0).toNat : Int)) 32 126, (FzAs.same _), ?_⟩)
    refine litE (m := 1) rfl ?_
    refine brF hb1 (fun hb1 h2 => ?_) (fun hb1 h2 => ?_)
    · refine andE (by (first | omega | (simp (disch := omega) only [wrap_small, mid_eq, List.length_map]; omega) | (simp; done) | (simp; omega) | (simp at *; omega) | (simp at *; done) | (simp_all; done) | (simp_all; omega))) ?_
      refine brQ hb1 (fun hb1 h3 => ?_) (fun hb1 h3 => x1.goE hi1 hb1 [] ⟨rfl, ⟨(eqInt hw1), rfl, trivial⟩, trivial, trivial⟩)
      refine seqE ?_
      have hg := donE hg (x1.outD hi1 hb1)
      exact leafE hown hg
    · refine seqE ?_
      have hg := donE hg (x1.outD hi1 hb1)
      exact leafE hown hg
  have hg := finE hg (x1.fin hi1)
  refine seqE ?_
  refine lenS fun hN4 => ?_
  exact leafE hown hg
theorem impl_PlainOk_all (s : ByteArray) : ∀ i u r, impl_PlainOk_b1 s i u = .done r → r = false := by
  intro i u r hr
  unfold impl_PlainOk_b1 at hr
  simp only [Bool.cond_eq_ite] at hr
  repeat' split at hr
  all_goals (first | (cases hr; rfl) | cases hr)
theorem impl_PlainOk_size {s : ByteArray} (h : impl_PlainOk s = true) : s.size ≤ 20 := by
  unfold impl_PlainOk at h
  rcases loopC_all (impl_PlainOk_all s) s.size 0 () with ⟨u, e⟩ | e
  · rw [e] at h
    simp [Fin.get] at h
    omega
  · rw [e] at h; cases h
def impl_AttrOk (p0 : Attr) : Bool :=
  (bif p0.Num then (bif (impl_NameOk p0.Key) then (bif (impl_within p0.N 0 2147483647) then (decide (p0.Text = (ByteArray.mk #[]))) else false) else false) else (bif (impl_NameOk p0.Key) then (bif (impl_PlainOk p0.Text) then (p0.N == 0) else false) else false))
theorem c_impl_AttrOk (p0 : Attr) : FnOk prog 75 [.agg (Attr.cells p0)] ⟨.one (.v (.bool (impl_AttrOk p0))), [], [], false⟩ := by
  refine FnOk.intro (E := env) envOk wide func75 rfl (by kernel_rfl) rfl rfl ?_
  have hg := impl_AttrOk.eq_1 p0
  have hown : ∀ g : Bool, AV.Own (AV.one (.v (.bool g))) := fun g => .v _
  refine seqE ?_
  refine litE (m := 0) rfl ?_
  refine seqE ?_
  refine seqE ?_
  refine brE hg (fun hg h1 => ?_) (fun hg h1 => ?_)
  · refine seqE ?_
    refine .inl (⟨_, _, c_impl_NameOk p0.Key, (FzAs.same _), ?_⟩)
    refine litE (m := 2) rfl ?_
    refine brE hg (fun hg h2 => ?_) (fun hg h2 => leafE hown hg)
    refine .inl (⟨_, _, c_impl_within p0.N 0 2147483647, (FzAs.same _), ?_⟩)
    refine litE (m := 3) rfl ?_
    exact brE hg (fun hg h3 => leafE hown hg) (fun hg h3 => leafE hown hg)
  · refine seqE ?_
    refine .inl (⟨_, _, c_impl_NameOk p0.Key, (FzAs.same _), ?_⟩)
    refine litE (m := 2) rfl ?_
    refine brE hg (fun hg h4 => ?_) (fun hg h4 => leafE hown hg)
    refine .inl (⟨_, _, c_impl_PlainOk p0.Text, (FzAs.same _), ?_⟩)
    refine litE (m := 3) rfl ?_
    exact brE hg (fun hg h5 => leafE hown hg) (fun hg h5 => leafE hown hg)
theorem impl_AttrOk_size {a : Attr} (h : impl_AttrOk a = true) : a.Key.size ≤ 8 ∧ (a.Num = false → a.Text.size ≤ 20) := by
  unfold impl_AttrOk at h
  cases hn : impl_NameOk a.Key with
  | false => rw [hn] at h; cases a.Num <;> simp at h
  | true =>
    refine ⟨impl_NameOk_size hn, fun h0 => ?_⟩
    rw [h0, hn] at h
    cases hp : impl_PlainOk a.Text with
    | false => rw [hp] at h; simp at h
    | true => exact impl_PlainOk_size hp
def impl_AttrsOk_b1 (p0 : (List Attr)) (i1 : Nat) (s1 : Unit) (a1 : Attr) : Step (Unit) Bool :=
  (bif (!(impl_AttrOk a1)) then (.done false) else (bif (decide (((i1 : Nat) : Int) > 0)) then (bif (!Op.bytesLess ((p0[((IntKind.i64.wrap (((i1 : Nat) : Int) - 1))).toNat]?.getD default).Key).toList (a1.Key).toList) then (.done false) else (.next ())) else (.next ())))
def impl_AttrsOk (p0 : (List Attr)) : Bool :=
  (Fin.get (fun s1 => (decide ((((p0).length : Nat) : Int) ≤ 4))) (loopL (impl_AttrsOk_b1 p0) 0 () p0))
theorem c_impl_AttrsOk (p0 : (List Attr)) : FnOk prog 53 [.one (.s false 4 (List.map Attr.cells p0))] ⟨.one (.v (.bool (impl_AttrsOk p0))), [], [], false⟩ := by
  refine FnOk.intro (E := env) envOk wide func53 rfl (by kernel_rfl) rfl rfl ?_
  have hg := impl_AttrsOk.eq_1 p0
  have hown : ∀ g : Bool, AV.Own (AV.one (.v (.bool g))) := fun g => .v _
  refine seqE ?_
  refine seqE ?_
  refine seqE ?_
  refine lenM fun hN1 => ?_
  refine loopLE hg [0, 5, 6] (fun x1 => [(7, .one (.v (.int .i64 ((x1.i : Nat) : Int))))]) (fun x1 => []) [] ?_ (fun x1 => ?_)
  · exact ⟨rfl, ⟨rfl, rfl, rfl, rfl, trivial⟩, trivial, trivial⟩
  refine seqE ?_
  refine seqE ?_
  refine tstL (fun hi1 => ?_) (fun hi1 => ?_)
  · have hb1 := (x1.bdy hi1).trans (impl_AttrsOk_b1.eq_1 ..)
    have hw1 := wrap_succ hi1 (by first | assumption | omega)
    refine seqE ?_
    refine seqE ?_
    refine idxAt hi1 ?_
    refine litE (m := 0) rfl ?_
    refine seqE ?_
    refine .inl ⟨by kernel_rfl, ?_⟩
    refine ⟨_, _, c_impl_AttrOk (p0[x1.i]'hi1), (FzAs.same _), ?_⟩
    refine brF hb1 (fun hb1 h2 => ?_) (fun hb1 h2 => ?_)
    · refine brD hb1 (fun hb1 h3 => ?_) (fun hb1 h3 => x1.goE hi1 hb1 [] ⟨rfl, ⟨(eqInt hw1), rfl, rfl, rfl, trivial⟩, trivial, trivial⟩)
      refine idxOf (l := p0) (by have hj : x1.i < p0.length := hi1; have h9 : ((x1.i : Nat) : Int) > 0 := (by assumption); rw [Go.Ev.wrap_small (n := ((x1.i : Nat) : Int) - 1) (by omega) (by omega)]; omega) (fun hq4 => ?_)
      refine brE hb1 (fun hb1 h5 => ?_) (fun hb1 h5 => x1.goE hi1 hb1 [] ⟨rfl, ⟨(eqInt hw1), rfl, rfl, rfl, trivial⟩, trivial, trivial⟩)
      refine seqE ?_
      have hg := donE hg (x1.outD hi1 hb1)
      exact leafE hown hg
    · refine seqE ?_
      have hg := donE hg (x1.outD hi1 hb1)
      exact leafE hown hg
  have hg := finE hg (x1.fin hi1)
  refine seqE ?_
  refine lenM fun hN6 => ?_
  exact leafE hown hg
theorem impl_AttrsOk_all (l : List Attr) : ∀ i u a r, impl_AttrsOk_b1 l i u a = .done r → r = false := by
  intro i u a r hr
  unfold impl_AttrsOk_b1 at hr
  simp only [Bool.cond_eq_ite] at hr
  repeat' split at hr
  all_goals (first | (cases hr; rfl) | cases hr)
theorem impl_AttrsOk_len {l : List Attr} (h : impl_AttrsOk l = true) : l.length ≤ 4 := by
  unfold impl_AttrsOk at h
  rcases loopL_all (impl_AttrsOk_all l) l 0 () with ⟨u, e⟩ | e
  · rw [e] at h
    simp [Fin.get] at h
    omega
  · rw [e] at h; cases h
def impl_AttrSize (p0 : Attr) : Int :=
  (bif p0.Num then (IntKind.i64.wrap ((((p0.Key).size : Nat) : Int) + 4)) else (IntKind.i64.wrap ((((p0.Key).size : Nat) : Int) + (((p0.Text).size : Nat) : Int))))
theorem c_impl_AttrSize (p0 : Attr) : FnOk prog 76 [.agg (Attr.cells p0)] ⟨.one (.v (.int .i64 (impl_AttrSize p0))), [], [], false⟩ := by
  refine FnOk.intro (E := env) envOk wide func76 rfl (by kernel_rfl) rfl rfl ?_
  have hg := impl_AttrSize.eq_1 p0
  have hown : ∀ g : Int, AV.Own (AV.one (.v (.int .i64 g))) := fun g => .v _
  refine seqE ?_
  refine litE (m := 0) rfl ?_
  refine seqE ?_
  refine seqE ?_
  refine brE hg (fun hg h1 => ?_) (fun hg h1 => ?_)
  · refine seqE ?_
    refine lenS fun hN2 => ?_
    exact leafE hown hg
  · refine seqE ?_
    refine lenS fun hN3 => ?_
    refine lenS fun hN4 => ?_
    exact leafE hown hg
def impl_SizeOf_b1 (i1 : Nat) (s1 : Int) (a1 : Attr) : Step (Int) Int :=
  (.next (IntKind.i64.wrap (s1 + (impl_AttrSize a1))))
def impl_SizeOf (p0 : Span) : Int :=
  (Fin.get (fun s1 => s1) (loopL impl_SizeOf_b1 0 12 p0.Attrs))
theorem c_impl_SizeOf (p0 : Span) : FnOk prog 54 [.agg ((Span.cells false) p0)] ⟨.one (.v (.int .i64 (impl_SizeOf p0))), [], [], false⟩ := by
  refine FnOk.intro (E := env) envOk wide func54 rfl (by kernel_rfl) rfl rfl ?_
  have hg := impl_SizeOf.eq_1 p0
  have hown : ∀ g : Int, AV.Own (AV.one (.v (.int .i64 g))) := fun g => .v _
  refine seqE ?_
  refine litE (m := 0) rfl ?_
  refine seqE ?_
  refine seqE ?_
  refine seqE ?_
  refine lenM fun hN1 => ?_
  refine loopLE hg [7, 8] (fun x1 => [(3, .one (.v (.int .i64 x1.s))), (9, .one (.v (.int .i64 ((x1.i : Nat) : Int))))]) (fun x1 => [.dead]) [none] ?_ (fun x1 => ?_)
  · exact ⟨rfl, ⟨rfl, rfl, rfl, rfl, trivial⟩, trivial, trivial⟩
  refine seqE ?_
  refine seqE ?_
  refine tstL (fun hi1 => ?_) (fun hi1 => ?_)
  · have hb1 := (x1.bdy hi1).trans (impl_SizeOf_b1.eq_1 ..)
    have hw1 := wrap_succ hi1 (by first | assumption | omega)
    refine seqE ?_
    refine seqE ?_
    refine idxAt hi1 ?_
    refine litE (m := 1) rfl ?_
    refine .inl (⟨_, _, c_impl_AttrSize (p0.Attrs[x1.i]'hi1), (FzAs.same _), ?_⟩)
    refine litE (m := 3) rfl ?_
    exact x1.goE hi1 hb1 [none] ⟨rfl, ⟨rfl, (eqInt hw1), rfl, rfl, trivial⟩, trivial, trivial⟩
  have hg := finE hg (x1.fin hi1)
  refine seqE ?_
  exact leafE hown hg
def impl_SpanOk (p0 : Span) : Bool :=
  (bif (impl_within p0.Trace 1 999) then (bif (impl_within p0.Id 1 999) then (bif (impl_within p0.End 0 99999) then (bif (impl_within p0.Start 0 p0.End) then (bif (impl_AttrsOk p0.Attrs) then (decide ((impl_SizeOf p0) ≤ 96)) else false) else false) else false) else false) else false)
theorem c_impl_SpanOk (p0 : Span) : FnOk prog 28 [.agg ((Span.cells false) p0)] ⟨.one (.v (.bool (impl_SpanOk p0))), [], [], false⟩ := by
  refine FnOk.intro (E := env) envOk wide func28 rfl (by kernel_rfl) rfl rfl ?_
  have hg := impl_SpanOk.eq_1 p0
  have hown : ∀ g : Bool, AV.Own (AV.one (.v (.bool g))) := fun g => .v _
  refine seqE ?_
  refine litE (m := 0) rfl ?_
  refine seqE ?_
  refine .inl (⟨_, _, c_impl_within p0.Trace 1 999, (FzAs.same _), ?_⟩)
  refine litE (m := 2) rfl ?_
  refine brE hg (fun hg h1 => ?_) (fun hg h1 => leafE hown hg)
  refine .inl (⟨_, _, c_impl_within p0.Id 1 999, (FzAs.same _), ?_⟩)
  refine litE (m := 3) rfl ?_
  refine brE hg (fun hg h2 => ?_) (fun hg h2 => leafE hown hg)
  refine .inl (⟨_, _, c_impl_within p0.End 0 99999, (FzAs.same _), ?_⟩)
  refine litE (m := 4) rfl ?_
  refine brE hg (fun hg h3 => ?_) (fun hg h3 => leafE hown hg)
  refine .inl (⟨_, _, c_impl_within p0.Start 0 p0.End, (FzAs.same _), ?_⟩)
  refine litE (m := 5) rfl ?_
  refine brE hg (fun hg h4 => ?_) (fun hg h4 => leafE hown hg)
  refine .inl (⟨_, _, c_impl_AttrsOk p0.Attrs, (FzAs.same _), ?_⟩)
  refine litE (m := 6) rfl ?_
  refine brE hg (fun hg h5 => ?_) (fun hg h5 => leafE hown hg)
  refine .inl (⟨_, _, c_impl_SizeOf p0, (FzAs.same _), ?_⟩)
  refine litE (m := 7) rfl ?_
  exact leafE hown hg
theorem impl_SpanOk_len {s : Span} (h : impl_SpanOk s = true) : s.Attrs.length ≤ 4 := by
  unfold impl_SpanOk at h
  cases ha : impl_AttrsOk s.Attrs with
  | true => exact impl_AttrsOk_len ha
  | false =>
    rw [ha] at h
    simp [Bool.cond_eq_ite] at h
def impl_NumText (p0 : Int) : ByteArray :=
  (itoaS p0)
theorem c_impl_NumText (p0 : Int) : FnOk prog 49 [.one (.v (.int .i64 p0))] ⟨.one (.v (.string (impl_NumText p0))), [], [], false⟩ := by
  refine FnOk.intro (E := env) envOk wide func49 rfl (by kernel_rfl) rfl rfl ?_
  have hg := impl_NumText.eq_1 p0
  have hown : ∀ g : ByteArray, AV.Own (AV.one (.v (.string g))) := fun g => .v _
  refine seqE ?_
  refine seqE ?_
  refine .inl (⟨_, _, c_itoa p0, (FzAs.same _), ?_⟩)
  refine litE (m := 1) rfl ?_
  exact leafE hown hg
theorem impl_NumText_size {n : Int} (h : I64 n) : (impl_NumText n).size ≤ 20 := itoaS_size h.1 h.2
def impl_AttrText (p0 : Attr) : ByteArray :=
  (bif (!(impl_AttrOk p0)) then (ByteArray.mk #[]) else (bif p0.Num then ((p0.Key ++ (ByteArray.mk #[61])) ++ (impl_NumText p0.N)) else (((p0.Key ++ (ByteArray.mk #[61, 34])) ++ p0.Text) ++ (ByteArray.mk #[34]))))
theorem cr_impl_AttrText (p0 : Attr) (hr0 : Attr.rg p0) : FnOk prog 55 [.agg (Attr.cells p0)] ⟨.one (.v (.string (impl_AttrText p0))), [], [], false⟩ := by
  refine FnOk.intro (E := env) envOk wide func55 rfl (by kernel_rfl) rfl rfl ?_
  have hg := impl_AttrText.eq_1 p0
  have hown : ∀ g : ByteArray, AV.Own (AV.one (.v (.string g))) := fun g => .v _
  refine seqE ?_
  refine litE (m := 0) rfl ?_
  refine seqE ?_
  refine seqE ?_
  refine .inl (⟨_, _, c_impl_AttrOk p0, (FzAs.same _), ?_⟩)
  refine litE (m := 2) rfl ?_
  refine brE hg (fun hg h1 => ?_) (fun hg h1 => ?_)
  · refine seqE ?_
    exact leafE hown hg
  · refine seqE ?_
    refine brE hg (fun hg h2 => ?_) (fun hg h2 => ?_)
    · refine seqE ?_
      refine .inl ⟨by kernel_rfl, ?_⟩
      refine andE (by have ho := impl_AttrOk_size (a := p0) (by simpa using h1); have hz := impl_NumText_size hr0.N; (try have ht := ho.2 h2); (try simp only [ByteArray.size_append]); simp only [bsz, List.size_toArray, List.length_cons, List.length_nil]; omega) ?_
      refine ⟨_, _, c_impl_NumText p0.N, (FzAs.same _), ?_⟩
      refine andE (by have ho := impl_AttrOk_size (a := p0) (by simpa using h1); have hz := impl_NumText_size hr0.N; (try have ht := ho.2 h2); (try simp only [ByteArray.size_append]); simp only [bsz, List.size_toArray, List.length_cons, List.length_nil]; omega) ?_
      exact leafE hown hg
    · refine seqE ?_
      refine andE (by have ho := impl_AttrOk_size (a := p0) (by simpa using h1); have hz := impl_NumText_size hr0.N; (try have ht := ho.2 h2); (try simp only [ByteArray.size_append]); simp only [bsz, List.size_toArray, List.length_cons, List.length_nil]; omega) ?_
      refine andE (by have ho := impl_AttrOk_size (a := p0) (by simpa using h1); have hz := impl_NumText_size hr0.N; (try have ht := ho.2 h2); (try simp only [ByteArray.size_append]); simp only [bsz, List.size_toArray, List.length_cons, List.length_nil]; omega) ?_
      refine andE (by have ho := impl_AttrOk_size (a := p0) (by simpa using h1); have hz := impl_NumText_size hr0.N; (try have ht := ho.2 h2); (try simp only [ByteArray.size_append]); simp only [bsz, List.size_toArray, List.length_cons, List.length_nil]; omega) ?_
      exact leafE hown hg
theorem c_impl_AttrText (p0 : Attr) : FnOk prog 55 [.agg (Attr.cells p0)] ⟨.one (.v (.string (impl_AttrText p0))), [], [], false⟩ :=
  FnOk.fits ⟨_, func55, by kernel_rfl, by kernel_rfl⟩ (fun hf => cr_impl_AttrText p0 (rg_Attr hf.1))
theorem impl_AttrText_size {a : Attr} (h : I64 a.N) : (impl_AttrText a).size ≤ 40 := by
  unfold impl_AttrText
  cases ho : impl_AttrOk a with
  | false => simp only [Bool.not_false, cond_true, bsz, List.size_toArray, List.length_cons, List.length_nil]; omega
  | true =>
    have h1 := impl_AttrOk_size ho
    have h2 := impl_NumText_size h
    cases hn : a.Num with
    | true => simp only [Bool.not_true, cond_true, cond_false, ByteArray.size_append, bsz, List.size_toArray, List.length_cons, List.length_nil]; omega
    | false => have h3 := h1.2 hn; simp only [Bool.not_true, cond_false, ByteArray.size_append, bsz, List.size_toArray, List.length_cons, List.length_nil]; omega
def impl_SpanText_j1 (p0 : Span) : Step (ByteArray) ByteArray :=
  (bif p0.Err then (.next ((((((((impl_NumText p0.Trace) ++ (ByteArray.mk #[47])) ++ (impl_NumText p0.Id)) ++ (ByteArray.mk #[32])) ++ (impl_NumText p0.Start)) ++ (ByteArray.mk #[45])) ++ (impl_NumText p0.End)) ++ (ByteArray.mk #[32, 102, 97, 105, 108, 101, 100]))) else (.next (((((((impl_NumText p0.Trace) ++ (ByteArray.mk #[47])) ++ (impl_NumText p0.Id)) ++ (ByteArray.mk #[32])) ++ (impl_NumText p0.Start)) ++ (ByteArray.mk #[45])) ++ (impl_NumText p0.End))))
def impl_SpanText_b2 (i2 : Nat) (s2 : ByteArray) (a2 : Attr) : Step (ByteArray) ByteArray :=
  (.next (s2 ++ ((ByteArray.mk #[32]) ++ (impl_AttrText a2))))
def impl_SpanText (p0 : Span) : ByteArray :=
  (bif (!(impl_SpanOk p0)) then (ByteArray.mk #[]) else (Step.get (fun s1 => (Fin.get (fun s2 => s2) (loopL impl_SpanText_b2 0 s1 p0.Attrs))) (impl_SpanText_j1 p0)))
theorem implJ {s : Span} {v : ByteArray} (e : impl_SpanText_j1 s = .next v) (h : Span.rg s) : v.size ≤ 200 := by
  have z1 := impl_NumText_size h.Trace; have z2 := impl_NumText_size h.Id; have z3 := impl_NumText_size h.Start; have z4 := impl_NumText_size h.End
  unfold impl_SpanText_j1 at e
  cases he : s.Err with
  | true => rw [he, cond_true] at e; cases e; simp only [ByteArray.size_append, bsz, List.size_toArray, List.length_cons, List.length_nil]; omega
  | false => rw [he, cond_false] at e; cases e; simp only [ByteArray.size_append, bsz, List.size_toArray, List.length_cons, List.length_nil]; omega
theorem cr_impl_SpanText (p0 : Span) (hr0 : Span.rg p0) : FnOk prog 29 [.agg ((Span.cells false) p0)] ⟨.one (.v (.string (impl_SpanText p0))), [], [], false⟩ := by
  refine FnOk.intro (E := env) envOk wide func29 rfl (by kernel_rfl) rfl rfl ?_
  have hg := impl_SpanText.eq_1 p0
  have hown : ∀ g : ByteArray, AV.Own (AV.one (.v (.string g))) := fun g => .v _
  refine seqE ?_
  refine litE (m := 0) rfl ?_
  refine seqE ?_
  refine seqE ?_
  refine .inl (⟨_, _, c_impl_SpanOk p0, (FzAs.same _), ?_⟩)
  refine litE (m := 2) rfl ?_
  refine brE hg (fun hg h1 => ?_) (fun hg h1 => ?_)
  · refine seqE ?_
    exact leafE hown hg
  · refine seqE ?_
    refine .inl ⟨by kernel_rfl, ?_⟩
    refine ⟨_, _, c_impl_NumText p0.Trace, (FzAs.same _), ?_⟩
    refine andE (by have z1 := impl_NumText_size hr0.Trace; have z2 := impl_NumText_size hr0.Id; have z3 := impl_NumText_size hr0.Start; have z4 := impl_NumText_size hr0.End; have hl := impl_SpanOk_len (s := p0) (by simpa using h1); (try have y2 := impl_AttrText_size (hr0.Attrs.2 _ (List.getElem_mem hi2)).N); (try have q2 := hI2); (try simp only [ByteArray.size_append]); simp only [bsz, List.size_toArray, List.length_cons, List.length_nil]; omega) ?_
    refine ⟨_, _, c_impl_NumText p0.Id, (FzAs.same _), ?_⟩
    refine andE (by have z1 := impl_NumText_size hr0.Trace; have z2 := impl_NumText_size hr0.Id; have z3 := impl_NumText_size hr0.Start; have z4 := impl_NumText_size hr0.End; have hl := impl_SpanOk_len (s := p0) (by simpa using h1); (try have y2 := impl_AttrText_size (hr0.Attrs.2 _ (List.getElem_mem hi2)).N); (try have q2 := hI2); (try simp only [ByteArray.size_append]); simp only [bsz, List.size_toArray, List.length_cons, List.length_nil]; omega) ?_
    refine andE (by have z1 := impl_NumText_size hr0.Trace; have z2 := impl_NumText_size hr0.Id; have z3 := impl_NumText_size hr0.Start; have z4 := impl_NumText_size hr0.End; have hl := impl_SpanOk_len (s := p0) (by simpa using h1); (try have y2 := impl_AttrText_size (hr0.Attrs.2 _ (List.getElem_mem hi2)).N); (try have q2 := hI2); (try simp only [ByteArray.size_append]); simp only [bsz, List.size_toArray, List.length_cons, List.length_nil]; omega) ?_
    refine ⟨_, _, c_impl_NumText p0.Start, (FzAs.same _), ?_⟩
    refine andE (by have z1 := impl_NumText_size hr0.Trace; have z2 := impl_NumText_size hr0.Id; have z3 := impl_NumText_size hr0.Start; have z4 := impl_NumText_size hr0.End; have hl := impl_SpanOk_len (s := p0) (by simpa using h1); (try have y2 := impl_AttrText_size (hr0.Attrs.2 _ (List.getElem_mem hi2)).N); (try have q2 := hI2); (try simp only [ByteArray.size_append]); simp only [bsz, List.size_toArray, List.length_cons, List.length_nil]; omega) ?_
    refine andE (by have z1 := impl_NumText_size hr0.Trace; have z2 := impl_NumText_size hr0.Id; have z3 := impl_NumText_size hr0.Start; have z4 := impl_NumText_size hr0.End; have hl := impl_SpanOk_len (s := p0) (by simpa using h1); (try have y2 := impl_AttrText_size (hr0.Attrs.2 _ (List.getElem_mem hi2)).N); (try have q2 := hI2); (try simp only [ByteArray.size_append]); simp only [bsz, List.size_toArray, List.length_cons, List.length_nil]; omega) ?_
    refine ⟨_, _, c_impl_NumText p0.End, (FzAs.same _), ?_⟩
    refine andE (by have z1 := impl_NumText_size hr0.Trace; have z2 := impl_NumText_size hr0.Id; have z3 := impl_NumText_size hr0.Start; have z4 := impl_NumText_size hr0.End; have hl := impl_SpanOk_len (s := p0) (by simpa using h1); (try have y2 := impl_AttrText_size (hr0.Attrs.2 _ (List.getElem_mem hi2)).N); (try have q2 := hI2); (try simp only [ByteArray.size_append]); simp only [bsz, List.size_toArray, List.length_cons, List.length_nil]; omega) ?_
    refine joinE hg [1] (fun x1 => [(3, .one (.v (.string x1.s)))]) (fun x1 => [.keep 0, .dead]) (fun hb1 => ?_) (fun x1 hg => ?_)
    · have hb1 := hb1.trans (impl_SpanText_j1.eq_1 ..)
      refine seqE ?_
      refine brE hb1 (fun hb1 h2 => ?_) (fun hb1 h2 => .inl ⟨⟨_, hb1⟩, [some 0, none], ⟨rfl, ⟨rfl, ⟨rfl, rfl, rfl, rfl⟩, trivial⟩, ⟨⟨rfl, rfl, ⟨rfl, rfl, rfl, rfl, rfl, rfl, trivial⟩⟩, trivial⟩, trivial⟩⟩)
      refine andE (by have z1 := impl_NumText_size hr0.Trace; have z2 := impl_NumText_size hr0.Id; have z3 := impl_NumText_size hr0.Start; have z4 := impl_NumText_size hr0.End; have hl := impl_SpanOk_len (s := p0) (by simpa using h1); (try have y2 := impl_AttrText_size (hr0.Attrs.2 _ (List.getElem_mem hi2)).N); (try have q2 := hI2); (try simp only [ByteArray.size_append]); simp only [bsz, List.size_toArray, List.length_cons, List.length_nil]; omega) ?_
      exact .inl ⟨⟨_, hb1⟩, [some 0, none], ⟨rfl, ⟨rfl, ⟨rfl, rfl, rfl, rfl⟩, trivial⟩, ⟨⟨rfl, rfl, ⟨rfl, rfl, rfl, rfl, rfl, rfl, trivial⟩⟩, trivial⟩, trivial⟩⟩
    have hJ := implJ x1.e hr0
    refine seqE ?_
    refine seqE ?_
    refine lenM fun hN3 => ?_
    refine loopLI (fun (i : Nat) (s : ByteArray) => s.size ≤ 200 + 50 * i) hg (by have q := hJ; omega) [32, 33] (fun x2 => [(3, .one (.v (.string x2.s))), (34, .one (.v (.int .i64 ((x2.i : Nat) : Int))))]) (fun x2 => [.dead, .dead]) [none, none] ?_ (fun x2 => ?_)
    · exact ⟨rfl, ⟨rfl, rfl, rfl, rfl, trivial⟩, trivial, trivial⟩
    have hI2 := x2.hI
    try dsimp only at hI2
    refine seqE ?_
    refine seqE ?_
    refine tstL (fun hi2 => ?_) (fun hi2 => ?_)
    · have hb2 := (x2.bdy hi2).trans (impl_SpanText_b2.eq_1 ..)
      have hw2 := wrap_succ hi2 (by first | assumption | omega)
      refine seqE ?_
      refine seqE ?_
      refine idxAt hi2 ?_
      refine litE (m := 2) rfl ?_
      refine .inl (⟨_, _, c_impl_AttrText (p0.Attrs[x2.i]'hi2), (FzAs.same _), ?_⟩)
      refine litE (m := 4) rfl ?_
      refine andE (by have z1 := impl_NumText_size hr0.Trace; have z2 := impl_NumText_size hr0.Id; have z3 := impl_NumText_size hr0.Start; have z4 := impl_NumText_size hr0.End; have hl := impl_SpanOk_len (s := p0) (by simpa using h1); (try have y2 := impl_AttrText_size (hr0.Attrs.2 _ (List.getElem_mem hi2)).N); (try have q2 := hI2); (try simp only [ByteArray.size_append]); simp only [bsz, List.size_toArray, List.length_cons, List.length_nil]; omega) ?_
      refine andE (by have z1 := impl_NumText_size hr0.Trace; have z2 := impl_NumText_size hr0.Id; have z3 := impl_NumText_size hr0.Start; have z4 := impl_NumText_size hr0.End; have hl := impl_SpanOk_len (s := p0) (by simpa using h1); (try have y2 := impl_AttrText_size (hr0.Attrs.2 _ (List.getElem_mem hi2)).N); (try have q2 := hI2); (try simp only [ByteArray.size_append]); simp only [bsz, List.size_toArray, List.length_cons, List.length_nil]; omega) ?_
      exact x2.goE hi2 hb2 (by (try have y2 := impl_AttrText_size (hr0.Attrs.2 _ (List.getElem_mem hi2)).N); have q2 := hI2; (try simp only [ByteArray.size_append]); simp only [bsz, List.size_toArray, List.length_cons, List.length_nil]; omega) [none, none] ⟨rfl, ⟨rfl, (eqInt hw2), rfl, rfl, trivial⟩, trivial, trivial⟩
    have hg := finE hg (x2.fin hi2)
    refine seqE ?_
    exact leafE hown hg
theorem c_impl_SpanText (p0 : Span) : FnOk prog 29 [.agg ((Span.cells false) p0)] ⟨.one (.v (.string (impl_SpanText p0))), [], [], false⟩ :=
  FnOk.fits ⟨_, func29, by kernel_rfl, by kernel_rfl⟩ (fun hf => cr_impl_SpanText p0 (rg_Span hf.1))
theorem cat_loop {α ρ : Type} {f : α → ByteArray} {b : Nat → ByteArray → α → Step ByteArray ρ} {M : Nat} : ∀ (l : List α) (i : Nat) (s : ByteArray), (∀ a ∈ l, (f a).size ≤ M) → (∀ i s a, b i s a = .next (s ++ f a)) → ∃ t, loopL b i s l = .fin t ∧ t.size ≤ s.size + M * l.length
  | [], i, s, _, _ => ⟨s, rfl, by simp⟩
  | a :: l, i, s, hf, hb => by
    unfold loopL
    rw [hb]
    obtain ⟨t, e, h⟩ := cat_loop l (i + 1) (s ++ f a) (fun x hx => hf x (by simp [hx])) hb
    refine ⟨t, e, ?_⟩
    have := hf a (by simp)
    rw [ByteArray.size_append] at h
    rw [List.length_cons, Nat.mul_add]
    omega
theorem spanText_run {s : Span} (ho : impl_SpanOk s = true) : ∃ v, impl_SpanText_j1 s = .next v ∧ impl_SpanText s = Fin.get (fun s2 => s2) (loopL impl_SpanText_b2 0 v s.Attrs) := by
  unfold impl_SpanText impl_SpanText_j1
  rw [ho]
  cases s.Err <;> exact ⟨_, rfl, rfl⟩
theorem impl_SpanText_size {s : Span} (h : Span.rg s) : (impl_SpanText s).size ≤ 500 := by
  cases ho : impl_SpanOk s with
  | false => unfold impl_SpanText; rw [ho]; simp only [Bool.not_false, cond_true, bsz, List.size_toArray, List.length_cons, List.length_nil]; omega
  | true =>
    have hl := impl_SpanOk_len ho
    have hA : ∀ a ∈ s.Attrs, (ByteArray.mk #[32] ++ impl_AttrText a).size ≤ 41 := fun a ha => by
      have := impl_AttrText_size (h.Attrs.2 a ha).N
      simp only [ByteArray.size_append, bsz, List.size_toArray, List.length_cons, List.length_nil]; omega
    obtain ⟨v, e, e2⟩ := spanText_run ho
    have hv := implJ e h
    obtain ⟨t, e3, ht⟩ := cat_loop (ρ := ByteArray) (b := impl_SpanText_b2) s.Attrs 0 v hA (fun _ _ _ => rfl)
    rw [e2, e3]
    show t.size ≤ 500
    omega
def spec_l1In (p0 : Int) (p1 : Int) (p2 : Int) : Bool :=
  (bif (decide (p0 ≥ p1)) then (decide (p0 ≤ p2)) else false)
theorem c_spec_l1In (p0 : Int) (p1 : Int) (p2 : Int) : FnOk prog 41 [.one (.v (.int .i64 p0)), .one (.v (.int .i64 p1)), .one (.v (.int .i64 p2))] ⟨.one (.v (.bool (spec_l1In p0 p1 p2))), [], [], false⟩ := by
  refine FnOk.intro (E := env) envOk wide func41 rfl (by kernel_rfl) rfl rfl ?_
  have hg := spec_l1In.eq_1 p0 p1 p2
  have hown : ∀ g : Bool, AV.Own (AV.one (.v (.bool g))) := fun g => .v _
  refine seqE ?_
  refine seqE ?_
  exact brD hg (fun hg h1 => leafE hown hg) (fun hg h1 => leafE hown hg)
theorem l1In_byte (c : UInt8) (lo hi : Int) : spec_l1In (IntKind.i64.wrap ((c.toNat : Nat) : Int)) lo hi = decide (lo ≤ (c.toNat : Int) ∧ (c.toNat : Int) ≤ hi) := by
  have h := c.toNat_lt
  rw [wrap_small (n := ((c.toNat : Nat) : Int)) (by omega) (by omega)]
  unfold spec_l1In
  rw [Bool.eq_iff_iff]
  simp [Bool.cond_eq_ite]
def spec_ParseNum_j1 (p0 : ByteArray) : Step (Unit) (Int × Bool) :=
  (bif ((((p0).size : Nat) : Int) == 0) then (.done (0, false)) else (bif (decide ((((p0).size : Nat) : Int) > 10)) then (.done (0, false)) else (bif (decide ((((p0).size : Nat) : Int) > 1)) then (bif ((((p0).data.getD 0 0).toNat : Int) == 48) then (.done (0, false)) else (.next ())) else (.next ()))))
def spec_ParseNum_b2 (p0 : ByteArray) (i2 : Nat) (s2 : Int) : Step (Int) (Int × Bool) :=
  (bif (!(spec_l1In (IntKind.i64.wrap (((p0).data.getD i2 0).toNat : Int)) 48 57)) then (.done (0, false)) else (.next (IntKind.i64.wrap ((IntKind.i64.wrap (10 * s2)) + (IntKind.i64.wrap (IntKind.u8.wrap ((((p0).data.getD i2 0).toNat : Int) - 48)))))))
def spec_ParseNum (p0 : ByteArray) : (Int × Bool) :=
  (Step.get (fun s1 => (Fin.get (fun s2 => (bif (decide (s2 > 2147483647)) then (0, false) else (s2, true))) (loopC (spec_ParseNum_b2 p0) 0 0 (p0).size))) (spec_ParseNum_j1 p0))
theorem c_spec_ParseNum (p0 : ByteArray) : FnOk prog 42 [.one (.v (.string p0))] ⟨.tup [.one (.v (.int .i64 (spec_ParseNum p0).1)), .one (.v (.bool (spec_ParseNum p0).2))], [], [], false⟩ := by
  refine FnOk.intro (E := env) envOk wide func42 rfl (by kernel_rfl) rfl rfl ?_
  have hg := spec_ParseNum.eq_1 p0
  have hown : ∀ g : (Int × Bool), AV.Own (AV.tup [.one (.v (.int .i64 g.1)), .one (.v (.bool g.2))]) := fun g => ⟨.v _, .v _, trivial⟩
  refine seqE ?_
  refine joinE hg [0] (fun x1 => []) (fun x1 => []) (fun hb1 => ?_) (fun x1 hg => ?_)
  · have hb1 := hb1.trans (spec_ParseNum_j1.eq_1 ..)
    refine seqE ?_
    refine lenS fun hN1 => ?_
    refine brQF hb1 (fun hb1 h2 => ?_) (fun hb1 h2 => ?_)
    · refine lenS fun hN3 => ?_
      refine brDF hb1 (fun hb1 h4 => ?_) (fun hb1 h4 => ?_)
      · refine lenS fun hN5 => ?_
        refine brD hb1 (fun hb1 h6 => ?_) (fun hb1 h6 => .inl ⟨⟨_, hb1⟩, [], ⟨rfl, ⟨rfl, trivial⟩, trivial, trivial⟩⟩)
        refine andE (by (first | omega | (simp (disch := omega) only [wrap_small, mid_eq, List.length_map]; omega) | (simp; done) | (simp; omega) | (simp at *; omega) | (simp at *; done) | (simp_all; done) | (simp_all; omega))) ?_
        refine brQ hb1 (fun hb1 h7 => ?_) (fun hb1 h7 => .inl ⟨⟨_, hb1⟩, [], ⟨rfl, ⟨rfl, trivial⟩, trivial, trivial⟩⟩)
        refine seqE ?_
        have hg := getD hg hb1
        exact leafE hown hg
      · refine seqE ?_
        have hg := getD hg hb1
        exact leafE hown hg
    · refine seqE ?_
      have hg := getD hg hb1
      exact leafE hown hg
  refine seqE ?_
  refine seqE ?_
  refine seqE ?_
  refine loopCE hg [0] (fun x2 => [(4, .one (.v (.int .i64 x2.s))), (5, .one (.v (.int .i64 ((x2.i : Nat) : Int))))]) (fun x2 => []) [] ?_ (fun x2 => ?_)
  · exact ⟨rfl, ⟨rfl, rfl, rfl, trivial⟩, trivial, trivial⟩
  refine seqE ?_
  refine seqE ?_
  refine lenS fun hN8 => ?_
  refine tstL (fun hi2 => ?_) (fun hi2 => ?_)
  · have hb2 := (x2.bdy hi2).trans (spec_ParseNum_b2.eq_1 ..)
    have hw2 := wrap_succ hi2 (by first | assumption | omega)
    refine seqE ?_
    refine seqE ?_
    refine seqE ?_
    refine andE (by (first | omega | (simp (disch := omega) only [wrap_small, mid_eq, List.length_map]; omega) | (simp; done) | (simp; omega) | (simp at *; omega) | (simp at *; done) | (simp_all; done) | (simp_all; omega))) ?_
    refine .inl (⟨_, _, c_spec_l1In (IntKind.i64.wrap (((p0).data.getD x2.i 0).toNat : Int)) 48 57, (FzAs.same _), ?_⟩)
    refine litE (m := 1) rfl ?_
    refine brE hb2 (fun hb2 h9 => ?_) (fun hb2 h9 => ?_)
    · refine seqE ?_
      have hg := donE hg (x2.outD hi2 hb2)
      exact leafE hown hg
    · refine andE (by (first | omega | (simp (disch := omega) only [wrap_small, mid_eq, List.length_map]; omega) | (simp; done) | (simp; omega) | (simp at *; omega) | (simp at *; done) | (simp_all; done) | (simp_all; omega))) ?_
      exact x2.goE hi2 hb2 [] ⟨rfl, ⟨rfl, (eqInt hw2), rfl, trivial⟩, trivial, trivial⟩
  have hg := finE hg (x2.fin hi2)
  refine seqE ?_
  refine seqE ?_
  refine brD hg (fun hg h10 => ?_) (fun hg h10 => ?_)
  · refine seqE ?_
    exact leafE hown hg
  · refine seqE ?_
    exact leafE hown hg
def spec_l27Num_b2 (p0 : l27Reader) (s2 : Int) : Step (Int) (Step (Int) (Int × l27Reader)) :=
  (bif (decide (s2 < (((p0.f_s).size : Nat) : Int))) then (bif (spec_l1In (IntKind.i64.wrap (((p0.f_s).data.getD (s2).toNat 0).toNat : Int)) 48 57) then (.next (IntKind.i64.wrap (s2 + 1))) else (.stop s2)) else (.stop s2))
def spec_l27Num_j1 (p0 : l27Reader) : Step (Int) (Int × l27Reader) :=
  (Fin.get (fun s2 => (.next s2)) (loopW (spec_l27Num_b2 p0) ((fun s : Int => (((p0.f_s).size : Nat) : Int).toNat - s.toNat) p0.f_at) p0.f_at))
def spec_l27Num (p0 : l27Reader) : (Int × l27Reader) :=
  (Step.get (fun s1 => (bif p0.f_bad then ((spec_ParseNum ((p0.f_s).extract (p0.f_at).toNat (s1).toNat)).1, (l27Reader.mk p0.f_s s1 true)) else ((spec_ParseNum ((p0.f_s).extract (p0.f_at).toNat (s1).toNat)).1, (l27Reader.mk p0.f_s s1 (!(spec_ParseNum ((p0.f_s).extract (p0.f_at).toNat (s1).toNat)).2))))) (spec_l27Num_j1 p0))
def isDig (c : UInt8) : Bool := decide ((48 : Int) ≤ (c.toNat : Int) ∧ (c.toNat : Int) ≤ 57)
theorem num_run {r : l27Reader} (h : RdOk r) : loopW (spec_l27Num_b2 r) ((fun s : Int => (((r.f_s).size : Nat) : Int).toNat - s.toNat) r.f_at) r.f_at = .fin ((scanTo isDig r.f_s r.f_at.toNat : Nat) : Int) := by
  have h0 := h.a0; have h1 := h.a1; have h2 := h.a2
  have e : r.f_at = ((r.f_at.toNat : Nat) : Int) := by omega
  rw [e]
  simp only [Int.toNat_natCast]
  refine scan_loop (fun k hk => ?_) (fun k hk => ?_) _ _ (Nat.le_refl _)
  · unfold spec_l27Num_b2
    rw [decide_eq_true (show (k : Int) < ((r.f_s.size : Nat) : Int) by omega), cond_true, Int.toNat_natCast, wrap_small (n := (k : Int) + 1) (by omega) (by omega)]
    rw [l1In_byte]; rfl
  · unfold spec_l27Num_b2
    rw [decide_eq_false (show ¬ (k : Int) < ((r.f_s.size : Nat) : Int) by omega), cond_false]
theorem num_j {r : l27Reader} {v : Int} (e : spec_l27Num_j1 r = .next v) (h : RdOk r) : v = ((scanTo isDig r.f_s r.f_at.toNat : Nat) : Int) ∧ r.f_at ≤ v ∧ v ≤ ((r.f_s.size : Nat) : Int) := by
  have h0 := h.a0; have h1 := h.a1
  unfold spec_l27Num_j1 at e
  rw [num_run h] at e
  cases e
  have := scanTo_le (f := isDig) (s := r.f_s) (k := r.f_at.toNat) (by omega)
  exact ⟨rfl, by omega, by omega⟩
theorem c_spec_l27Num (p0 : l27Reader) (hs : RdOk p0) : FnOk prog 15 [.tup [.one (.b (l27Reader.cells p0))]] ⟨.one (.v (.int .i64 (spec_l27Num p0).1)), [.one (.b (l27Reader.cells (spec_l27Num p0).2))], [], false⟩ := by
  refine FnOk.introV (E := env) envOk wide func15 rfl (by kernel_rfl) rfl ?_
  have hg := spec_l27Num.eq_1 p0
  have hown : (false = false → ∀ g : (Int × l27Reader), AV.Own (AV.one (.v (.int .i64 g.1)))) ∧ (fun g : (Int × l27Reader) => l27Reader.cells g.2) = _ ∧ (fun g : (Int × l27Reader) => AV.one (.v (.int .i64 g.1))) = _ := ⟨fun _ g => .v _, rfl, rfl⟩
  refine seqE ?_
  refine seqE ?_
  refine joinE hg [0, 3] (fun x1 => []) (fun x1 => [.new ⟨3, true, [[.v (.string p0.f_s), .v (.int .i64 x1.s), .v (.bool p0.f_bad)]], 0⟩, .dead]) (fun hb1 => ?_) (fun x1 hg => ?_)
  · have hb1 := hb1.trans (spec_l27Num_j1.eq_1 ..)
    refine loopWE (m := (fun s : Int => (((p0.f_s).size : Nat) : Int).toNat - s.toNat)) (s0 := p0.f_at) (fun s : Int => p0.f_at ≤ s ∧ s ≤ ((p0.f_s.size : Nat) : Int)) hb1 (by exact ⟨Int.le_refl _, hs.a1⟩) [0, 3] (fun x2 => []) (fun x2 => [.new ⟨3, true, [[.v (.string p0.f_s), .v (.int .i64 x2.s), .v (.bool p0.f_bad)]], 0⟩, .dead]) [some 0, none] ?_ (fun x2 => ?_)
    · exact ⟨rfl, ⟨⟨rfl, rfl, rfl, rfl⟩, rfl, trivial⟩, ⟨⟨rfl, rfl, ⟨rfl, rfl, rfl, trivial⟩⟩, trivial⟩, ⟨⟨rfl, rfl, rfl, rfl⟩, trivial⟩⟩
    have hI2 := x2.hI
    try dsimp only at hI2
    have hb2 := x2.bdy.trans (spec_l27Num_b2.eq_1 ..)
    refine seqE ?_
    refine seqE ?_
    refine .inl ⟨by kernel_rfl, ?_⟩
    refine lenS fun hN1 => ?_
    refine brD hb2 (fun hb2 h2 => ?_) (fun hb2 h2 => ?_)
    · refine andE (by have f0 := hs.a0; have f1 := hs.a1; have f2 := hs.a2; have f3 := hI2; omega) ?_
      refine ⟨_, _, c_spec_l1In (IntKind.i64.wrap (((p0.f_s).data.getD (x2.s).toNat 0).toNat : Int)) 48 57, (FzAs.same _), ?_⟩
      refine brE hb2 (fun hb2 h3 => x2.goE hb2 (show (fun s : Int => p0.f_at ≤ s ∧ s ≤ ((p0.f_s.size : Nat) : Int)) (IntKind.i64.wrap (x2.s + 1)) ∧ (fun s : Int => (((p0.f_s).size : Nat) : Int).toNat - s.toNat) (IntKind.i64.wrap (x2.s + 1)) < (fun s : Int => (((p0.f_s).size : Nat) : Int).toNat - s.toNat) x2.s by have f0 := hs.a0; have f1 := hs.a1; have f2 := hs.a2; have f3 := hI2; exact ⟨⟨by (first | omega | (dsimp only <;> omega) | (simp (disch := omega) only [wrap_small, mid_eq, mid_eq1, mid_eq2, mid_eq3, List.length_map, List.length_set] <;> omega) | (simp (disch := omega) only [wrap_small, mid_eq, mid_eq1, mid_eq2, mid_eq3, List.length_map, List.length_set] at * <;> omega)), by (first | omega | (dsimp only <;> omega) | (simp (disch := omega) only [wrap_small, mid_eq, mid_eq1, mid_eq2, mid_eq3, List.length_map, List.length_set] <;> omega) | (simp (disch := omega) only [wrap_small, mid_eq, mid_eq1, mid_eq2, mid_eq3, List.length_map, List.length_set] at * <;> omega))⟩, by (first | omega | (dsimp only <;> omega) | (simp (disch := omega) only [wrap_small, mid_eq, mid_eq1, mid_eq2, mid_eq3, List.length_map, List.length_set] <;> omega) | (simp (disch := omega) only [wrap_small, mid_eq, mid_eq1, mid_eq2, mid_eq3, List.length_map, List.length_set] at * <;> omega))⟩) [some 0, none] ⟨rfl, ⟨⟨rfl, rfl, rfl, rfl⟩, rfl, trivial⟩, ⟨⟨rfl, rfl, ⟨rfl, rfl, rfl, trivial⟩⟩, trivial⟩, ⟨⟨rfl, rfl, rfl, rfl⟩, trivial⟩⟩) (fun hb2 h3 => ?_)
      have hb1 := finE hb1 (x2.outS hb2)
      exact .inl ⟨⟨_, hb1⟩, [some 0, none], ⟨rfl, ⟨⟨rfl, rfl, rfl, rfl⟩, rfl, trivial⟩, ⟨⟨rfl, rfl, ⟨rfl, rfl, rfl, trivial⟩⟩, trivial⟩, ⟨⟨rfl, rfl, rfl, rfl⟩, trivial⟩⟩⟩
    · have hb1 := finE hb1 (x2.outS hb2)
      exact .inl ⟨⟨_, hb1⟩, [some 0, none], ⟨rfl, ⟨⟨rfl, rfl, rfl, rfl⟩, rfl, trivial⟩, ⟨⟨rfl, rfl, ⟨rfl, rfl, rfl, trivial⟩⟩, trivial⟩, ⟨⟨rfl, rfl, rfl, rfl⟩, trivial⟩⟩⟩
  have f9 := num_j x1.e hs
  refine seqE ?_
  refine .inr (.inr (.inr (.inr (.inr (.inl ⟨(.seg 16 16 (.q 0 (.q 1 (.q 2 (.q 3 (.q 4 (.q 5 (.q 6 (.q 7 (.q 8 (.s 9 (.o 10 (.o 11 (.s 12 (.s 13 (.o 14 (.o 15 .leaf)))))))))))))))) .done), by kernel_rfl, ?_⟩)))))
  refine And.intro (by have f0 := hs.a0; have f1 := hs.a1; have f2 := hs.a2; exact ⟨by (first | omega | (dsimp only <;> omega) | (simp (disch := omega) only [wrap_small, mid_eq, mid_eq1, mid_eq2, mid_eq3, List.length_map, List.length_set] <;> omega) | (simp (disch := omega) only [wrap_small, mid_eq, mid_eq1, mid_eq2, mid_eq3, List.length_map, List.length_set] at * <;> omega)), by (first | omega | (dsimp only <;> omega) | (simp (disch := omega) only [wrap_small, mid_eq, mid_eq1, mid_eq2, mid_eq3, List.length_map, List.length_set] <;> omega) | (simp (disch := omega) only [wrap_small, mid_eq, mid_eq1, mid_eq2, mid_eq3, List.length_map, List.length_set] at * <;> omega)), by (first | omega | (dsimp only <;> omega) | (simp (disch := omega) only [wrap_small, mid_eq, mid_eq1, mid_eq2, mid_eq3, List.length_map, List.length_set] <;> omega) | (simp (disch := omega) only [wrap_small, mid_eq, mid_eq1, mid_eq2, mid_eq3, List.length_map, List.length_set] at * <;> omega))⟩) ?_
  refine ⟨_, _, c_spec_ParseNum ((p0.f_s).extract (p0.f_at).toNat (x1.s).toNat), (FzAs.same _), ?_⟩
  refine litE (m := 3) rfl ?_
  refine seqE ?_
  refine brF hg (fun hg h4 => ?_) (fun hg h4 => ?_)
  · refine seqE ?_
    exact leafB hown hg
  · refine seqE ?_
    exact leafB hown hg
theorem num_eq {r : l27Reader} (h : RdOk r) : spec_l27Num r = ((spec_ParseNum (r.f_s.extract r.f_at.toNat (scanTo isDig r.f_s r.f_at.toNat))).1, ⟨r.f_s, ((scanTo isDig r.f_s r.f_at.toNat : Nat) : Int), r.f_bad || !(spec_ParseNum (r.f_s.extract r.f_at.toNat (scanTo isDig r.f_s r.f_at.toNat))).2⟩) := by
  unfold spec_l27Num spec_l27Num_j1
  rw [num_run h]
  simp only [Fin.get_fin, Step.get, Int.toNat_natCast]
  cases r.f_bad <;> rfl
theorem ge_l27Num {r : l27Reader} (h : RdOk r) : RdGe r (spec_l27Num r).2 := by
  have h0 := h.a0; have h1 := h.a1
  have := scanTo_le (f := isDig) (s := r.f_s) (k := r.f_at.toNat) (by omega)
  rw [num_eq h]
  exact ⟨⟨by show (0 : Int) ≤ ((scanTo isDig r.f_s r.f_at.toNat : Nat) : Int); omega, by show ((scanTo isDig r.f_s r.f_at.toNat : Nat) : Int) ≤ ((r.f_s.size : Nat) : Int); omega, h.a2⟩, rfl, by show r.f_at ≤ ((scanTo isDig r.f_s r.f_at.toNat : Nat) : Int); omega⟩
def spec_l27Is (p0 : l27Reader) (p1 : ByteArray) : (Bool × l27Reader) :=
  (bif p0.f_bad then (false, p0) else (bif (decide ((IntKind.i64.wrap (p0.f_at + (((p1).size : Nat) : Int))) > (((p0.f_s).size : Nat) : Int))) then (false, p0) else (bif (!decide (((p0.f_s).extract (p0.f_at).toNat ((IntKind.i64.wrap (p0.f_at + (((p1).size : Nat) : Int)))).toNat) = p1)) then (false, p0) else (true, (l27Reader.mk p0.f_s (IntKind.i64.wrap (p0.f_at + (((p1).size : Nat) : Int))) p0.f_bad)))))
theorem c_spec_l27Is (p0 : l27Reader) (p1 : ByteArray) (hs : RdOk p0) (hp : p1.size ≤ 1000) : FnOk prog 18 [.tup [.one (.b (l27Reader.cells p0))], .one (.v (.string p1))] ⟨.one (.v (.bool (spec_l27Is p0 p1).1)), [.one (.b (l27Reader.cells (spec_l27Is p0 p1).2))], [], false⟩ := by
  refine FnOk.introV (E := env) envOk wide func18 rfl (by kernel_rfl) rfl ?_
  have hg := spec_l27Is.eq_1 p0 p1
  have hown : (false = false → ∀ g : (Bool × l27Reader), AV.Own (AV.one (.v (.bool g.1)))) ∧ (fun g : (Bool × l27Reader) => l27Reader.cells g.2) = _ ∧ (fun g : (Bool × l27Reader) => AV.one (.v (.bool g.1))) = _ := ⟨fun _ g => .v _, rfl, rfl⟩
  refine seqE ?_
  refine seqE ?_
  refine seqE ?_
  refine .inl ⟨by kernel_rfl, ?_⟩
  refine brF hg (fun hg h1 => ?_) (fun hg h1 => ?_)
  · refine lenS fun hN2 => ?_
    refine lenS fun hN3 => ?_
    refine brDF hg (fun hg h4 => ?_) (fun hg h4 => ?_)
    · refine lenS fun hN5 => ?_
      refine And.intro (by have f0 := hs.a0; have f1 := hs.a1; have f2 := hs.a2; have f4 := hp; exact ⟨by (first | omega | (dsimp only <;> omega) | (simp (disch := omega) only [wrap_small, mid_eq, mid_eq1, mid_eq2, mid_eq3, List.length_map, List.length_set] <;> omega) | (simp (disch := omega) only [wrap_small, mid_eq, mid_eq1, mid_eq2, mid_eq3, List.length_map, List.length_set] at * <;> omega)), by (first | omega | (dsimp only <;> omega) | (simp (disch := omega) only [wrap_small, mid_eq, mid_eq1, mid_eq2, mid_eq3, List.length_map, List.length_set] <;> omega) | (simp (disch := omega) only [wrap_small, mid_eq, mid_eq1, mid_eq2, mid_eq3, List.length_map, List.length_set] at * <;> omega)), by (first | omega | (dsimp only <;> omega) | (simp (disch := omega) only [wrap_small, mid_eq, mid_eq1, mid_eq2, mid_eq3, List.length_map, List.length_set] <;> omega) | (simp (disch := omega) only [wrap_small, mid_eq, mid_eq1, mid_eq2, mid_eq3, List.length_map, List.length_set] at * <;> omega))⟩) ?_
      refine brE hg (fun hg h6 => ?_) (fun hg h6 => ?_)
      · refine seqE ?_
        exact leafB hown hg
      · refine seqE ?_
        refine lenS fun hN7 => ?_
        refine seqE ?_
        exact leafB hown hg
    · refine seqE ?_
      exact leafB hown hg
  · refine seqE ?_
    exact leafB hown hg
theorem ge_l27Is {r : l27Reader} {t : ByteArray} (h : RdOk r) (hp : t.size ≤ 1000) : RdGe r (spec_l27Is r t).2 := by
  have h0 := h.a0; have h1 := h.a1; have h2 := h.a2
  have hr : RdGe r r := ⟨h, rfl, Int.le_refl _⟩
  unfold spec_l27Is
  refine bif_ind (P := fun z : Bool × l27Reader => RdGe r z.2) (fun _ => hr) (fun _ => bif_ind (P := fun z : Bool × l27Reader => RdGe r z.2) (fun _ => hr) (fun hc => bif_ind (P := fun z : Bool × l27Reader => RdGe r z.2) (fun _ => hr) (fun _ => ?_)))
  rw [decide_eq_false_iff_not] at hc
  rw [wrap_small (n := r.f_at + ((t.size : Nat) : Int)) (by omega) (by omega)] at hc ⊢
  exact ⟨⟨by show 0 ≤ r.f_at + ((t.size : Nat) : Int); omega, by show r.f_at + ((t.size : Nat) : Int) ≤ ((r.f_s.size : Nat) : Int); omega, h2⟩, rfl, by show r.f_at ≤ r.f_at + ((t.size : Nat) : Int); omega⟩
theorem gt_l27Is {r : l27Reader} {t : ByteArray} (h : RdOk r) (hp : t.size ≤ 1000) (hb : (spec_l27Is r t).1 = true) : r.f_at + ((t.size : Nat) : Int) ≤ (spec_l27Is r t).2.f_at := by
  have h0 := h.a0; have h1 := h.a1; have h2 := h.a2
  revert hb
  unfold spec_l27Is
  refine bif_ind (P := fun z : Bool × l27Reader => z.1 = true → r.f_at + ((t.size : Nat) : Int) ≤ z.2.f_at) (fun _ hb => by cases hb) (fun _ => bif_ind (P := fun z : Bool × l27Reader => z.1 = true → r.f_at + ((t.size : Nat) : Int) ≤ z.2.f_at) (fun _ hb => by cases hb) (fun hc => bif_ind (P := fun z : Bool × l27Reader => z.1 = true → r.f_at + ((t.size : Nat) : Int) ≤ z.2.f_at) (fun _ hb => by cases hb) (fun _ _ => ?_)))
  show _ ≤ IntKind.i64.wrap _
  rw [wrap_small (n := r.f_at + ((t.size : Nat) : Int)) (by omega) (by omega)]
  exact Int.le_refl _
def spec_l27Must (p0 : l27Reader) (p1 : ByteArray) : l27Reader :=
  (bindV (spec_l27Is p0 p1) fun (v1 : (Bool × l27Reader)) => (bif (!v1.1) then (l27Reader.mk v1.2.f_s v1.2.f_at true) else v1.2))
theorem c_spec_l27Must (p0 : l27Reader) (p1 : ByteArray) (hs : RdOk p0) (hp : p1.size ≤ 1000) : FnOk prog 16 [.tup [.one (.b (l27Reader.cells p0))], .one (.v (.string p1))] ⟨.tup [], [.one (.b (l27Reader.cells (spec_l27Must p0 p1)))], [], false⟩ := by
  refine FnOk.introV (E := env) envOk wide func16 rfl (by kernel_rfl) rfl ?_
  have hg := spec_l27Must.eq_1 p0 p1
  have hown : (false = false → ∀ g : l27Reader, AV.Own (AV.tup [])) ∧ (fun g : l27Reader => l27Reader.cells g) = _ ∧ (fun g : l27Reader => AV.tup []) = _ := ⟨fun _ g => trivial, rfl, rfl⟩
  refine seqE ?_
  refine .inr ⟨0, [], fun us1 hu1 => ⟨_, (.same _), _, _, _, _, _, c_spec_l27Is p0 p1 (by first | (first | assumption | exact hs | exact rd0 hs | exact hI2.1 | exact RdGe.ok (by assumption) | exact ⟨hs.a0, hs.a1, hs.a2⟩) | (simp only [bsz, List.size_toArray, List.length_cons, List.length_nil]; omega) | (have k0 := hz2.ok.a0; have k1 := hz2.ok.a2; have f8 := quo_j x1.e hz2.ok; exact ⟨by (first | omega | (dsimp only <;> omega) | (simp (disch := omega) only [wrap_small, mid_eq, mid_eq1, mid_eq2, mid_eq3, List.length_map, List.length_set] <;> omega) | (simp (disch := omega) only [wrap_small, mid_eq, mid_eq1, mid_eq2, mid_eq3, List.length_map, List.length_set] at * <;> omega)), by (first | omega | (dsimp only <;> omega) | (simp (disch := omega) only [wrap_small, mid_eq, mid_eq1, mid_eq2, mid_eq3, List.length_map, List.length_set] <;> omega) | (simp (disch := omega) only [wrap_small, mid_eq, mid_eq1, mid_eq2, mid_eq3, List.length_map, List.length_set] at * <;> omega)), by (first | omega | (dsimp only <;> omega) | (simp (disch := omega) only [wrap_small, mid_eq, mid_eq1, mid_eq2, mid_eq3, List.length_map, List.length_set] <;> omega) | (simp (disch := omega) only [wrap_small, mid_eq, mid_eq1, mid_eq2, mid_eq3, List.length_map, List.length_set] at * <;> omega))⟩)) (by first | (first | assumption | exact hs | exact rd0 hs | exact hI2.1 | exact RdGe.ok (by assumption) | exact ⟨hs.a0, hs.a1, hs.a2⟩) | (simp only [bsz, List.size_toArray, List.length_cons, List.length_nil]; omega) | (have k0 := hz2.ok.a0; have k1 := hz2.ok.a2; have f8 := quo_j x1.e hz2.ok; exact ⟨by (first | omega | (dsimp only <;> omega) | (simp (disch := omega) only [wrap_small, mid_eq, mid_eq1, mid_eq2, mid_eq3, List.length_map, List.length_set] <;> omega) | (simp (disch := omega) only [wrap_small, mid_eq, mid_eq1, mid_eq2, mid_eq3, List.length_map, List.length_set] at * <;> omega)), by (first | omega | (dsimp only <;> omega) | (simp (disch := omega) only [wrap_small, mid_eq, mid_eq1, mid_eq2, mid_eq3, List.length_map, List.length_set] <;> omega) | (simp (disch := omega) only [wrap_small, mid_eq, mid_eq1, mid_eq2, mid_eq3, List.length_map, List.length_set] at * <;> omega)), by (first | omega | (dsimp only <;> omega) | (simp (disch := omega) only [wrap_small, mid_eq, mid_eq1, mid_eq2, mid_eq3, List.length_map, List.length_set] <;> omega) | (simp (disch := omega) only [wrap_small, mid_eq, mid_eq1, mid_eq2, mid_eq3, List.length_map, List.length_set] at * <;> omega))⟩)), (FzAs.same _), (.same _), trivial, (Bool × l27Reader), (spec_l27Is p0 p1), (fun g => l27Reader.cells g.2), (fun g => .one (.v (.bool g.1))), rfl, rfl, fun v1 hvv1 => ?_⟩⟩
  refine litE (m := 3) rfl ?_
  have hz2 := rdE hvv1 (ge_l27Is (by first | assumption | exact hs | exact rd0 hs | exact hI2.1 | exact RdGe.ok (by assumption) | exact ⟨hs.a0, hs.a1, hs.a2⟩) (by first | assumption | (simp only [bsz, List.size_toArray, List.length_cons, List.length_nil]; omega)))
  refine litE (m := 3) rfl ?_
  have hg := bindE hvv1 hg
  exact brE hg (fun hg h3 => leafB hown hg) (fun hg h3 => leafB hown hg)
theorem ge_l27Must {r : l27Reader} {t : ByteArray} (h : RdOk r) (hp : t.size ≤ 1000) : RdGe r (spec_l27Must r t) := by
  have k := ge_l27Is h hp
  unfold spec_l27Must bindV
  exact bif_ind (P := fun z : l27Reader => RdGe r z) (fun _ => ⟨⟨k.ok.a0, k.ok.a1, k.ok.a2⟩, k.s, k.ge⟩) (fun _ => k)
def spec_l27Failed (p0 : l27Reader) : (Bool × l27Reader) :=
  (bindV (spec_l27Is p0 (ByteArray.mk #[32, 102, 97, 105, 108, 101, 100])) fun (v1 : (Bool × l27Reader)) => (bif (!v1.1) then (false, v1.2) else (bif (decide (v1.2.f_at < (((v1.2.f_s).size : Nat) : Int))) then (bif ((((v1.2.f_s).data.getD (v1.2.f_at).toNat 0).toNat : Int) != 32) then (false, (l27Reader.mk v1.2.f_s p0.f_at v1.2.f_bad)) else (true, v1.2)) else (true, v1.2))))
theorem c_spec_l27Failed (p0 : l27Reader) (hs : RdOk p0) : FnOk prog 17 [.tup [.one (.b (l27Reader.cells p0))]] ⟨.one (.v (.bool (spec_l27Failed p0).1)), [.one (.b (l27Reader.cells (spec_l27Failed p0).2))], [], false⟩ := by
  refine FnOk.introV (E := env) envOk wide func17 rfl (by kernel_rfl) rfl ?_
  have hg := spec_l27Failed.eq_1 p0
  have hown : (false = false → ∀ g : (Bool × l27Reader), AV.Own (AV.one (.v (.bool g.1)))) ∧ (fun g : (Bool × l27Reader) => l27Reader.cells g.2) = _ ∧ (fun g : (Bool × l27Reader) => AV.one (.v (.bool g.1))) = _ := ⟨fun _ g => .v _, rfl, rfl⟩
  refine seqE ?_
  refine seqE ?_
  refine seqE ?_
  refine seqE ?_
  refine .inr ⟨0, [], fun us1 hu1 => ⟨_, (.same _), _, _, _, _, _, c_spec_l27Is p0 (ByteArray.mk #[32, 102, 97, 105, 108, 101, 100]) (by first | (first | assumption | exact hs | exact rd0 hs | exact hI2.1 | exact RdGe.ok (by assumption) | exact ⟨hs.a0, hs.a1, hs.a2⟩) | (simp only [bsz, List.size_toArray, List.length_cons, List.length_nil]; omega) | (have k0 := hz2.ok.a0; have k1 := hz2.ok.a2; have f8 := quo_j x1.e hz2.ok; exact ⟨by (first | omega | (dsimp only <;> omega) | (simp (disch := omega) only [wrap_small, mid_eq, mid_eq1, mid_eq2, mid_eq3, List.length_map, List.length_set] <;> omega) | (simp (disch := omega) only [wrap_small, mid_eq, mid_eq1, mid_eq2, mid_eq3, List.length_map, List.length_set] at * <;> omega)), by (first | omega | (dsimp only <;> omega) | (simp (disch := omega) only [wrap_small, mid_eq, mid_eq1, mid_eq2, mid_eq3, List.length_map, List.length_set] <;> omega) | (simp (disch := omega) only [wrap_small, mid_eq, mid_eq1, mid_eq2, mid_eq3, List.length_map, List.length_set] at * <;> omega)), by (first | omega | (dsimp only <;> omega) | (simp (disch := omega) only [wrap_small, mid_eq, mid_eq1, mid_eq2, mid_eq3, List.length_map, List.length_set] <;> omega) | (simp (disch := omega) only [wrap_small, mid_eq, mid_eq1, mid_eq2, mid_eq3, List.length_map, List.length_set] at * <;> omega))⟩)) (by first | (first | assumption | exact hs | exact rd0 hs | exact hI2.1 | exact RdGe.ok (by assumption) | exact ⟨hs.a0, hs.a1, hs.a2⟩) | (simp only [bsz, List.size_toArray, List.length_cons, List.length_nil]; omega) | (have k0 := hz2.ok.a0; have k1 := hz2.ok.a2; have f8 := quo_j x1.e hz2.ok; exact ⟨by (first | omega | (dsimp only <;> omega) | (simp (disch := omega) only [wrap_small, mid_eq, mid_eq1, mid_eq2, mid_eq3, List.length_map, List.length_set] <;> omega) | (simp (disch := omega) only [wrap_small, mid_eq, mid_eq1, mid_eq2, mid_eq3, List.length_map, List.length_set] at * <;> omega)), by (first | omega | (dsimp only <;> omega) | (simp (disch := omega) only [wrap_small, mid_eq, mid_eq1, mid_eq2, mid_eq3, List.length_map, List.length_set] <;> omega) | (simp (disch := omega) only [wrap_small, mid_eq, mid_eq1, mid_eq2, mid_eq3, List.length_map, List.length_set] at * <;> omega)), by (first | omega | (dsimp only <;> omega) | (simp (disch := omega) only [wrap_small, mid_eq, mid_eq1, mid_eq2, mid_eq3, List.length_map, List.length_set] <;> omega) | (simp (disch := omega) only [wrap_small, mid_eq, mid_eq1, mid_eq2, mid_eq3, List.length_map, List.length_set] at * <;> omega))⟩)), (FzAs.same _), (.same _), trivial, (Bool × l27Reader), (spec_l27Is p0 (ByteArray.mk #[32, 102, 97, 105, 108, 101, 100])), (fun g => l27Reader.cells g.2), (fun g => .one (.v (.bool g.1))), rfl, rfl, fun v1 hvv1 => ?_⟩⟩
  refine litE (m := 3) rfl ?_
  have hz2 := rdE hvv1 (ge_l27Is (by first | assumption | exact hs | exact rd0 hs | exact hI2.1 | exact RdGe.ok (by assumption) | exact ⟨hs.a0, hs.a1, hs.a2⟩) (by first | assumption | (simp only [bsz, List.size_toArray, List.length_cons, List.length_nil]; omega)))
  refine litE (m := 3) rfl ?_
  have hg := bindE hvv1 hg
  refine brE hg (fun hg h3 => ?_) (fun hg h3 => ?_)
  · refine seqE ?_
    exact leafB hown hg
  · refine seqE ?_
    refine seqE ?_
    refine .inl ⟨by kernel_rfl, ?_⟩
    refine lenS fun hN4 => ?_
    refine brD hg (fun hg h5 => ?_) (fun hg h5 => ?_)
    · refine andE (by have f5 := hz2.ok; have f6 := f5.a0; have f7 := f5.a1; omega) ?_
      refine brW hg (fun hg h6 => ?_) (fun hg h6 => ?_)
      · refine seqE ?_
        refine seqE ?_
        exact leafB hown hg
      · refine seqE ?_
        exact leafB hown hg
    · refine seqE ?_
      exact leafB hown hg
theorem ge_l27Failed {r : l27Reader} (h : RdOk r) : RdGe r (spec_l27Failed r).2 := by
  have k := ge_l27Is (r := r) (t := ByteArray.mk #[32, 102, 97, 105, 108, 101, 100]) h (by decide)
  have hr : RdGe r ⟨(spec_l27Is r (ByteArray.mk #[32, 102, 97, 105, 108, 101, 100])).2.f_s, r.f_at, (spec_l27Is r (ByteArray.mk #[32, 102, 97, 105, 108, 101, 100])).2.f_bad⟩ := ⟨⟨h.a0, by show r.f_at ≤ _; rw [k.s]; exact h.a1, k.ok.a2⟩, k.s, Int.le_refl _⟩
  unfold spec_l27Failed bindV
  exact bif_ind (P := fun z : Bool × l27Reader => RdGe r z.2) (fun _ => k) (fun _ => bif_ind (P := fun z : Bool × l27Reader => RdGe r z.2) (fun _ => bif_ind (P := fun z : Bool × l27Reader => RdGe r z.2) (fun _ => hr) (fun _ => k)) (fun _ => k))
def spec_l27Name_b1 (p0 : l27Reader) (s1 : Int) : Step (Int) (ByteArray × l27Reader) :=
  (bif (decide (s1 < (((p0.f_s).size : Nat) : Int))) then (bif (spec_l1In (IntKind.i64.wrap (((p0.f_s).data.getD (s1).toNat 0).toNat : Int)) 97 122) then (.next (IntKind.i64.wrap (s1 + 1))) else (.stop s1)) else (.stop s1))
def spec_l27Name (p0 : l27Reader) : (ByteArray × l27Reader) :=
  (Fin.get (fun s1 => (((p0.f_s).extract (p0.f_at).toNat (s1).toNat), (l27Reader.mk p0.f_s s1 p0.f_bad))) (loopW (spec_l27Name_b1 p0) ((fun s : Int => (((p0.f_s).size : Nat) : Int).toNat - s.toNat) p0.f_at) p0.f_at))
theorem c_spec_l27Name (p0 : l27Reader) (hs : RdOk p0) : FnOk prog 19 [.tup [.one (.b (l27Reader.cells p0))]] ⟨.one (.v (.string (spec_l27Name p0).1)), [.one (.b (l27Reader.cells (spec_l27Name p0).2))], [], false⟩ := by
  refine FnOk.introV (E := env) envOk wide func19 rfl (by kernel_rfl) rfl ?_
  have hg := spec_l27Name.eq_1 p0
  have hown : (false = false → ∀ g : (ByteArray × l27Reader), AV.Own (AV.one (.v (.string g.1)))) ∧ (fun g : (ByteArray × l27Reader) => l27Reader.cells g.2) = _ ∧ (fun g : (ByteArray × l27Reader) => AV.one (.v (.string g.1))) = _ := ⟨fun _ g => .v _, rfl, rfl⟩
  refine seqE ?_
  refine seqE ?_
  refine seqE ?_
  refine loopWE (m := (fun s : Int => (((p0.f_s).size : Nat) : Int).toNat - s.toNat)) (s0 := p0.f_at) (fun s : Int => p0.f_at ≤ s ∧ s ≤ ((p0.f_s.size : Nat) : Int)) hg (by exact ⟨Int.le_refl _, hs.a1⟩) [0, 3] (fun x1 => []) (fun x1 => [.new ⟨3, true, [[.v (.string p0.f_s), .v (.int .i64 x1.s), .v (.bool p0.f_bad)]], 0⟩, .dead]) [some 0, none] ?_ (fun x1 => ?_)
  · exact ⟨rfl, ⟨⟨rfl, rfl, rfl, rfl⟩, rfl, trivial⟩, ⟨⟨rfl, rfl, ⟨rfl, rfl, rfl, trivial⟩⟩, trivial⟩, ⟨⟨rfl, rfl, rfl, rfl⟩, trivial⟩⟩
  have hI1 := x1.hI
  try dsimp only at hI1
  have hb1 := x1.bdy.trans (spec_l27Name_b1.eq_1 ..)
  refine seqE ?_
  refine seqE ?_
  refine .inl ⟨by kernel_rfl, ?_⟩
  refine lenS fun hN1 => ?_
  refine brD hb1 (fun hb1 h2 => ?_) (fun hb1 h2 => ?_)
  · refine andE (by have f0 := hs.a0; have f1 := hs.a1; have f2 := hs.a2; have f3 := hI1; omega) ?_
    refine ⟨_, _, c_spec_l1In (IntKind.i64.wrap (((p0.f_s).data.getD (x1.s).toNat 0).toNat : Int)) 97 122, (FzAs.same _), ?_⟩
    refine brE hb1 (fun hb1 h3 => x1.goE hb1 (show (fun s : Int => p0.f_at ≤ s ∧ s ≤ ((p0.f_s.size : Nat) : Int)) (IntKind.i64.wrap (x1.s + 1)) ∧ (fun s : Int => (((p0.f_s).size : Nat) : Int).toNat - s.toNat) (IntKind.i64.wrap (x1.s + 1)) < (fun s : Int => (((p0.f_s).size : Nat) : Int).toNat - s.toNat) x1.s by have f0 := hs.a0; have f1 := hs.a1; have f2 := hs.a2; have f3 := hI1; exact ⟨⟨by (first | omega | (dsimp only <;> omega) | (simp (disch := omega) only [wrap_small, mid_eq, mid_eq1, mid_eq2, mid_eq3, List.length_map, List.length_set] <;> omega) | (simp (disch := omega) only [wrap_small, mid_eq, mid_eq1, mid_eq2, mid_eq3, List.length_map, List.length_set] at * <;> omega)), by (first | omega | (dsimp only <;> omega) | (simp (disch := omega) only [wrap_small, mid_eq, mid_eq1, mid_eq2, mid_eq3, List.length_map, List.length_set] <;> omega) | (simp (disch := omega) only [wrap_small, mid_eq, mid_eq1, mid_eq2, mid_eq3, List.length_map, List.length_set] at * <;> omega))⟩, by (first | omega | (dsimp only <;> omega) | (simp (disch := omega) only [wrap_small, mid_eq, mid_eq1, mid_eq2, mid_eq3, List.length_map, List.length_set] <;> omega) | (simp (disch := omega) only [wrap_small, mid_eq, mid_eq1, mid_eq2, mid_eq3, List.length_map, List.length_set] at * <;> omega))⟩) [some 0, none] ⟨rfl, ⟨⟨rfl, rfl, rfl, rfl⟩, rfl, trivial⟩, ⟨⟨rfl, rfl, ⟨rfl, rfl, rfl, trivial⟩⟩, trivial⟩, ⟨⟨rfl, rfl, rfl, rfl⟩, trivial⟩⟩) (fun hb1 h3 => ?_)
    have hg := finE hg (x1.outS hb1)
    refine seqE ?_
    refine .inl ⟨by kernel_rfl, ?_⟩
    refine And.intro (by have f0 := hs.a0; have f1 := hs.a1; have f2 := hs.a2; have f3 := hI1; exact ⟨by (first | omega | (dsimp only <;> omega) | (simp (disch := omega) only [wrap_small, mid_eq, mid_eq1, mid_eq2, mid_eq3, List.length_map, List.length_set] <;> omega) | (simp (disch := omega) only [wrap_small, mid_eq, mid_eq1, mid_eq2, mid_eq3, List.length_map, List.length_set] at * <;> omega)), by (first | omega | (dsimp only <;> omega) | (simp (disch := omega) only [wrap_small, mid_eq, mid_eq1, mid_eq2, mid_eq3, List.length_map, List.length_set] <;> omega) | (simp (disch := omega) only [wrap_small, mid_eq, mid_eq1, mid_eq2, mid_eq3, List.length_map, List.length_set] at * <;> omega)), by (first | omega | (dsimp only <;> omega) | (simp (disch := omega) only [wrap_small, mid_eq, mid_eq1, mid_eq2, mid_eq3, List.length_map, List.length_set] <;> omega) | (simp (disch := omega) only [wrap_small, mid_eq, mid_eq1, mid_eq2, mid_eq3, List.length_map, List.length_set] at * <;> omega))⟩) ?_
    exact leafB hown hg
  · have hg := finE hg (x1.outS hb1)
    refine seqE ?_
    refine .inl ⟨by kernel_rfl, ?_⟩
    refine And.intro (by have f0 := hs.a0; have f1 := hs.a1; have f2 := hs.a2; have f3 := hI1; exact ⟨by (first | omega | (dsimp only <;> omega) | (simp (disch := omega) only [wrap_small, mid_eq, mid_eq1, mid_eq2, mid_eq3, List.length_map, List.length_set] <;> omega) | (simp (disch := omega) only [wrap_small, mid_eq, mid_eq1, mid_eq2, mid_eq3, List.length_map, List.length_set] at * <;> omega)), by (first | omega | (dsimp only <;> omega) | (simp (disch := omega) only [wrap_small, mid_eq, mid_eq1, mid_eq2, mid_eq3, List.length_map, List.length_set] <;> omega) | (simp (disch := omega) only [wrap_small, mid_eq, mid_eq1, mid_eq2, mid_eq3, List.length_map, List.length_set] at * <;> omega)), by (first | omega | (dsimp only <;> omega) | (simp (disch := omega) only [wrap_small, mid_eq, mid_eq1, mid_eq2, mid_eq3, List.length_map, List.length_set] <;> omega) | (simp (disch := omega) only [wrap_small, mid_eq, mid_eq1, mid_eq2, mid_eq3, List.length_map, List.length_set] at * <;> omega))⟩) ?_
    exact leafB hown hg
def isLow (c : UInt8) : Bool := decide ((97 : Int) ≤ (c.toNat : Int) ∧ (c.toNat : Int) ≤ 122)
theorem name_run {r : l27Reader} (h : RdOk r) : loopW (spec_l27Name_b1 r) ((fun s : Int => (((r.f_s).size : Nat) : Int).toNat - s.toNat) r.f_at) r.f_at = .fin ((scanTo isLow r.f_s r.f_at.toNat : Nat) : Int) := by
  have h0 := h.a0; have h1 := h.a1; have h2 := h.a2
  have e : r.f_at = ((r.f_at.toNat : Nat) : Int) := by omega
  rw [e]
  simp only [Int.toNat_natCast]
  refine scan_loop (fun k hk => ?_) (fun k hk => ?_) _ _ (Nat.le_refl _)
  · unfold spec_l27Name_b1
    rw [decide_eq_true (show (k : Int) < ((r.f_s.size : Nat) : Int) by omega), cond_true, Int.toNat_natCast, wrap_small (n := (k : Int) + 1) (by omega) (by omega)]
    rw [l1In_byte]; rfl
  · unfold spec_l27Name_b1
    rw [decide_eq_false (show ¬ (k : Int) < ((r.f_s.size : Nat) : Int) by omega), cond_false]
theorem name_eq {r : l27Reader} (h : RdOk r) : spec_l27Name r = (r.f_s.extract r.f_at.toNat (scanTo isLow r.f_s r.f_at.toNat), ⟨r.f_s, ((scanTo isLow r.f_s r.f_at.toNat : Nat) : Int), r.f_bad⟩) := by
  unfold spec_l27Name
  rw [name_run h]
  simp only [Fin.get_fin, Int.toNat_natCast]
theorem ge_l27Name {r : l27Reader} (h : RdOk r) : RdGe r (spec_l27Name r).2 := by
  have h0 := h.a0; have h1 := h.a1
  have := scanTo_le (f := isLow) (s := r.f_s) (k := r.f_at.toNat) (by omega)
  rw [name_eq h]
  exact ⟨⟨by show (0 : Int) ≤ ((scanTo isLow r.f_s r.f_at.toNat : Nat) : Int); omega, by show ((scanTo isLow r.f_s r.f_at.toNat : Nat) : Int) ≤ ((r.f_s.size : Nat) : Int); omega, h.a2⟩, rfl, by show r.f_at ≤ ((scanTo isLow r.f_s r.f_at.toNat : Nat) : Int); omega⟩
def spec_l27Quoted_b2 (v1 : l27Reader) (s2 : Int) : Step (Int) (Step (Int) (ByteArray × l27Reader)) :=
  (bif (decide (s2 < (((v1.f_s).size : Nat) : Int))) then (bif ((((v1.f_s).data.getD (s2).toNat 0).toNat : Int) != 34) then (.next (IntKind.i64.wrap (s2 + 1))) else (.stop s2)) else (.stop s2))
def spec_l27Quoted_j1 (v1 : l27Reader) : Step (Int) (ByteArray × l27Reader) :=
  (Fin.get (fun s2 => (.next s2)) (loopW (spec_l27Quoted_b2 v1) ((fun s : Int => (((v1.f_s).size : Nat) : Int).toNat - s.toNat) v1.f_at) v1.f_at))
def spec_l27Quoted (p0 : l27Reader) : (ByteArray × l27Reader) :=
  (bindV (spec_l27Must p0 (ByteArray.mk #[34])) fun (v1 : l27Reader) => (Step.get (fun s1 => (bindV (spec_l27Must (l27Reader.mk v1.f_s s1 v1.f_bad) (ByteArray.mk #[34])) fun (v2 : l27Reader) => (((v1.f_s).extract (v1.f_at).toNat (s1).toNat), v2))) (spec_l27Quoted_j1 v1)))
def notQ (c : UInt8) : Bool := ((c.toNat : Nat) : Int) != 34
theorem quo_run {r : l27Reader} (h : RdOk r) : loopW (spec_l27Quoted_b2 r) ((fun s : Int => (((r.f_s).size : Nat) : Int).toNat - s.toNat) r.f_at) r.f_at = .fin ((scanTo notQ r.f_s r.f_at.toNat : Nat) : Int) := by
  have h0 := h.a0; have h1 := h.a1; have h2 := h.a2
  have e : r.f_at = ((r.f_at.toNat : Nat) : Int) := by omega
  rw [e]
  simp only [Int.toNat_natCast]
  refine scan_loop (fun k hk => ?_) (fun k hk => ?_) _ _ (Nat.le_refl _)
  · unfold spec_l27Quoted_b2
    rw [decide_eq_true (show (k : Int) < ((r.f_s.size : Nat) : Int) by omega), cond_true, Int.toNat_natCast, wrap_small (n := (k : Int) + 1) (by omega) (by omega)]
    rfl
  · unfold spec_l27Quoted_b2
    rw [decide_eq_false (show ¬ (k : Int) < ((r.f_s.size : Nat) : Int) by omega), cond_false]
theorem quo_j {r : l27Reader} {v : Int} (e : spec_l27Quoted_j1 r = .next v) (h : RdOk r) : v = ((scanTo notQ r.f_s r.f_at.toNat : Nat) : Int) ∧ r.f_at ≤ v ∧ v ≤ ((r.f_s.size : Nat) : Int) := by
  have h0 := h.a0; have h1 := h.a1
  unfold spec_l27Quoted_j1 at e
  rw [quo_run h] at e
  cases e
  have := scanTo_le (f := notQ) (s := r.f_s) (k := r.f_at.toNat) (by omega)
  exact ⟨rfl, by omega, by omega⟩
theorem c_spec_l27Quoted (p0 : l27Reader) (hs : RdOk p0) : FnOk prog 20 [.tup [.one (.b (l27Reader.cells p0))]] ⟨.one (.v (.string (spec_l27Quoted p0).1)), [.one (.b (l27Reader.cells (spec_l27Quoted p0).2))], [], false⟩ := by
  refine FnOk.introV (E := env) envOk wide func20 rfl (by kernel_rfl) rfl ?_
  have hg := spec_l27Quoted.eq_1 p0
  have hown : (false = false → ∀ g : (ByteArray × l27Reader), AV.Own (AV.one (.v (.string g.1)))) ∧ (fun g : (ByteArray × l27Reader) => l27Reader.cells g.2) = _ ∧ (fun g : (ByteArray × l27Reader) => AV.one (.v (.string g.1))) = _ := ⟨fun _ g => .v _, rfl, rfl⟩
  refine seqE ?_
  refine seqE ?_
  refine .inr ⟨0, [], fun us1 hu1 => ⟨_, (.same _), _, _, _, _, _, c_spec_l27Must p0 (ByteArray.mk #[34]) (by first | (first | assumption | exact hs | exact rd0 hs | exact hI2.1 | exact RdGe.ok (by assumption) | exact ⟨hs.a0, hs.a1, hs.a2⟩) | (simp only [bsz, List.size_toArray, List.length_cons, List.length_nil]; omega) | (have k0 := hz2.ok.a0; have k1 := hz2.ok.a2; have f8 := quo_j x1.e hz2.ok; exact ⟨by (first | omega | (dsimp only <;> omega) | (simp (disch := omega) only [wrap_small, mid_eq, mid_eq1, mid_eq2, mid_eq3, List.length_map, List.length_set] <;> omega) | (simp (disch := omega) only [wrap_small, mid_eq, mid_eq1, mid_eq2, mid_eq3, List.length_map, List.length_set] at * <;> omega)), by (first | omega | (dsimp only <;> omega) | (simp (disch := omega) only [wrap_small, mid_eq, mid_eq1, mid_eq2, mid_eq3, List.length_map, List.length_set] <;> omega) | (simp (disch := omega) only [wrap_small, mid_eq, mid_eq1, mid_eq2, mid_eq3, List.length_map, List.length_set] at * <;> omega)), by (first | omega | (dsimp only <;> omega) | (simp (disch := omega) only [wrap_small, mid_eq, mid_eq1, mid_eq2, mid_eq3, List.length_map, List.length_set] <;> omega) | (simp (disch := omega) only [wrap_small, mid_eq, mid_eq1, mid_eq2, mid_eq3, List.length_map, List.length_set] at * <;> omega))⟩)) (by first | (first | assumption | exact hs | exact rd0 hs | exact hI2.1 | exact RdGe.ok (by assumption) | exact ⟨hs.a0, hs.a1, hs.a2⟩) | (simp only [bsz, List.size_toArray, List.length_cons, List.length_nil]; omega) | (have k0 := hz2.ok.a0; have k1 := hz2.ok.a2; have f8 := quo_j x1.e hz2.ok; exact ⟨by (first | omega | (dsimp only <;> omega) | (simp (disch := omega) only [wrap_small, mid_eq, mid_eq1, mid_eq2, mid_eq3, List.length_map, List.length_set] <;> omega) | (simp (disch := omega) only [wrap_small, mid_eq, mid_eq1, mid_eq2, mid_eq3, List.length_map, List.length_set] at * <;> omega)), by (first | omega | (dsimp only <;> omega) | (simp (disch := omega) only [wrap_small, mid_eq, mid_eq1, mid_eq2, mid_eq3, List.length_map, List.length_set] <;> omega) | (simp (disch := omega) only [wrap_small, mid_eq, mid_eq1, mid_eq2, mid_eq3, List.length_map, List.length_set] at * <;> omega)), by (first | omega | (dsimp only <;> omega) | (simp (disch := omega) only [wrap_small, mid_eq, mid_eq1, mid_eq2, mid_eq3, List.length_map, List.length_set] <;> omega) | (simp (disch := omega) only [wrap_small, mid_eq, mid_eq1, mid_eq2, mid_eq3, List.length_map, List.length_set] at * <;> omega))⟩)), (FzAs.same _), (.same _), trivial, l27Reader, (spec_l27Must p0 (ByteArray.mk #[34])), (fun g => l27Reader.cells g), (fun g => .tup []), rfl, rfl, fun v1 hvv1 => ?_⟩⟩
  refine litE (m := 3) rfl ?_
  have hz2 := rdM hvv1 (ge_l27Must (by first | (first | assumption | exact hs | exact rd0 hs | exact hI2.1 | exact RdGe.ok (by assumption) | exact ⟨hs.a0, hs.a1, hs.a2⟩) | (have k0 := hz2.ok.a0; have k1 := hz2.ok.a2; have f8 := quo_j x1.e hz2.ok; exact ⟨by (first | omega | (dsimp only <;> omega) | (simp (disch := omega) only [wrap_small, mid_eq, mid_eq1, mid_eq2, mid_eq3, List.length_map, List.length_set] <;> omega) | (simp (disch := omega) only [wrap_small, mid_eq, mid_eq1, mid_eq2, mid_eq3, List.length_map, List.length_set] at * <;> omega)), by (first | omega | (dsimp only <;> omega) | (simp (disch := omega) only [wrap_small, mid_eq, mid_eq1, mid_eq2, mid_eq3, List.length_map, List.length_set] <;> omega) | (simp (disch := omega) only [wrap_small, mid_eq, mid_eq1, mid_eq2, mid_eq3, List.length_map, List.length_set] at * <;> omega)), by (first | omega | (dsimp only <;> omega) | (simp (disch := omega) only [wrap_small, mid_eq, mid_eq1, mid_eq2, mid_eq3, List.length_map, List.length_set] <;> omega) | (simp (disch := omega) only [wrap_small, mid_eq, mid_eq1, mid_eq2, mid_eq3, List.length_map, List.length_set] at * <;> omega))⟩)) (by first | assumption | (simp only [bsz, List.size_toArray, List.length_cons, List.length_nil]; omega)))
  refine litE (m := 3) rfl ?_
  have hg := bindE hvv1 hg
  refine seqE ?_
  refine joinE hg [0, 3] (fun x1 => []) (fun x1 => [.new ⟨3, true, [[.v (.string v1.f_s), .v (.int .i64 x1.s), .v (.bool v1.f_bad)]], 0⟩, .dead, .dead]) (fun hb1 => ?_) (fun x1 hg => ?_)
  · have hb1 := hb1.trans (spec_l27Quoted_j1.eq_1 ..)
    refine loopWE (m := (fun s : Int => (((v1.f_s).size : Nat) : Int).toNat - s.toNat)) (s0 := v1.f_at) (fun s : Int => v1.f_at ≤ s ∧ s ≤ ((v1.f_s.size : Nat) : Int)) hb1 (by exact ⟨Int.le_refl _, hz2.ok.a1⟩) [0, 3] (fun x2 => []) (fun x2 => [.new ⟨3, true, [[.v (.string v1.f_s), .v (.int .i64 x2.s), .v (.bool v1.f_bad)]], 0⟩, .dead, .dead]) [some 0, none, none] ?_ (fun x2 => ?_)
    · exact ⟨rfl, ⟨⟨rfl, rfl, rfl, rfl⟩, rfl, trivial⟩, ⟨⟨rfl, rfl, ⟨rfl, rfl, rfl, trivial⟩⟩, trivial⟩, ⟨⟨rfl, rfl, rfl, rfl⟩, trivial⟩⟩
    have hI2 := x2.hI
    try dsimp only at hI2
    have hb2 := x2.bdy.trans (spec_l27Quoted_b2.eq_1 ..)
    refine seqE ?_
    refine seqE ?_
    refine .inl ⟨by kernel_rfl, ?_⟩
    refine lenS fun hN3 => ?_
    refine brD hb2 (fun hb2 h4 => ?_) (fun hb2 h4 => ?_)
    · refine andE (by have k0 := hz2.ok.a0; have f3 := hI2; omega) ?_
      refine brW hb2 (fun hb2 h5 => x2.goE hb2 (show (fun s : Int => v1.f_at ≤ s ∧ s ≤ ((v1.f_s.size : Nat) : Int)) (IntKind.i64.wrap (x2.s + 1)) ∧ (fun s : Int => (((v1.f_s).size : Nat) : Int).toNat - s.toNat) (IntKind.i64.wrap (x2.s + 1)) < (fun s : Int => (((v1.f_s).size : Nat) : Int).toNat - s.toNat) x2.s by have k0 := hz2.ok.a0; have k1 := hz2.ok.a2; have f3 := hI2; exact ⟨⟨by (first | omega | (dsimp only <;> omega) | (simp (disch := omega) only [wrap_small, mid_eq, mid_eq1, mid_eq2, mid_eq3, List.length_map, List.length_set] <;> omega) | (simp (disch := omega) only [wrap_small, mid_eq, mid_eq1, mid_eq2, mid_eq3, List.length_map, List.length_set] at * <;> omega)), by (first | omega | (dsimp only <;> omega) | (simp (disch := omega) only [wrap_small, mid_eq, mid_eq1, mid_eq2, mid_eq3, List.length_map, List.length_set] <;> omega) | (simp (disch := omega) only [wrap_small, mid_eq, mid_eq1, mid_eq2, mid_eq3, List.length_map, List.length_set] at * <;> omega))⟩, by (first | omega | (dsimp only <;> omega) | (simp (disch := omega) only [wrap_small, mid_eq, mid_eq1, mid_eq2, mid_eq3, List.length_map, List.length_set] <;> omega) | (simp (disch := omega) only [wrap_small, mid_eq, mid_eq1, mid_eq2, mid_eq3, List.length_map, List.length_set] at * <;> omega))⟩) [some 0, none, none] ⟨rfl, ⟨⟨rfl, rfl, rfl, rfl⟩, rfl, trivial⟩, ⟨⟨rfl, rfl, ⟨rfl, rfl, rfl, trivial⟩⟩, trivial⟩, ⟨⟨rfl, rfl, rfl, rfl⟩, trivial⟩⟩) (fun hb2 h5 => ?_)
      have hb1 := finE hb1 (x2.outS hb2)
      exact .inl ⟨⟨_, hb1⟩, [some 0, none, none], ⟨rfl, ⟨⟨rfl, rfl, rfl, rfl⟩, rfl, trivial⟩, ⟨⟨rfl, rfl, ⟨rfl, rfl, rfl, trivial⟩⟩, trivial⟩, ⟨⟨rfl, rfl, rfl, rfl⟩, trivial⟩⟩⟩
    · have hb1 := finE hb1 (x2.outS hb2)
      exact .inl ⟨⟨_, hb1⟩, [some 0, none, none], ⟨rfl, ⟨⟨rfl, rfl, rfl, rfl⟩, rfl, trivial⟩, ⟨⟨rfl, rfl, ⟨rfl, rfl, rfl, trivial⟩⟩, trivial⟩, ⟨⟨rfl, rfl, rfl, rfl⟩, trivial⟩⟩⟩
  refine seqE ?_
  refine .inl ⟨by kernel_rfl, ?_⟩
  refine And.intro (by (have k0 := hz2.ok.a0; have k1 := hz2.ok.a2; have f8 := quo_j x1.e hz2.ok; exact ⟨by (first | omega | (dsimp only <;> omega) | (simp (disch := omega) only [wrap_small, mid_eq, mid_eq1, mid_eq2, mid_eq3, List.length_map, List.length_set] <;> omega) | (simp (disch := omega) only [wrap_small, mid_eq, mid_eq1, mid_eq2, mid_eq3, List.length_map, List.length_set] at * <;> omega)), by (first | omega | (dsimp only <;> omega) | (simp (disch := omega) only [wrap_small, mid_eq, mid_eq1, mid_eq2, mid_eq3, List.length_map, List.length_set] <;> omega) | (simp (disch := omega) only [wrap_small, mid_eq, mid_eq1, mid_eq2, mid_eq3, List.length_map, List.length_set] at * <;> omega)), by (first | omega | (dsimp only <;> omega) | (simp (disch := omega) only [wrap_small, mid_eq, mid_eq1, mid_eq2, mid_eq3, List.length_map, List.length_set] <;> omega) | (simp (disch := omega) only [wrap_small, mid_eq, mid_eq1, mid_eq2, mid_eq3, List.length_map, List.length_set] at * <;> omega))⟩)) ?_
  refine seqE ?_
  refine .inr ⟨0, [], fun us6 hu6 => ⟨_, (.same _), _, _, _, _, _, c_spec_l27Must (l27Reader.mk v1.f_s x1.s v1.f_bad) (ByteArray.mk #[34]) (by first | (first | assumption | exact hs | exact rd0 hs | exact hI2.1 | exact RdGe.ok (by assumption) | exact ⟨hs.a0, hs.a1, hs.a2⟩) | (simp only [bsz, List.size_toArray, List.length_cons, List.length_nil]; omega) | (have k0 := hz2.ok.a0; have k1 := hz2.ok.a2; have f8 := quo_j x1.e hz2.ok; exact ⟨by (first | omega | (dsimp only <;> omega) | (simp (disch := omega) only [wrap_small, mid_eq, mid_eq1, mid_eq2, mid_eq3, List.length_map, List.length_set] <;> omega) | (simp (disch := omega) only [wrap_small, mid_eq, mid_eq1, mid_eq2, mid_eq3, List.length_map, List.length_set] at * <;> omega)), by (first | omega | (dsimp only <;> omega) | (simp (disch := omega) only [wrap_small, mid_eq, mid_eq1, mid_eq2, mid_eq3, List.length_map, List.length_set] <;> omega) | (simp (disch := omega) only [wrap_small, mid_eq, mid_eq1, mid_eq2, mid_eq3, List.length_map, List.length_set] at * <;> omega)), by (first | omega | (dsimp only <;> omega) | (simp (disch := omega) only [wrap_small, mid_eq, mid_eq1, mid_eq2, mid_eq3, List.length_map, List.length_set] <;> omega) | (simp (disch := omega) only [wrap_small, mid_eq, mid_eq1, mid_eq2, mid_eq3, List.length_map, List.length_set] at * <;> omega))⟩)) (by first | (first | assumption | exact hs | exact rd0 hs | exact hI2.1 | exact RdGe.ok (by assumption) | exact ⟨hs.a0, hs.a1, hs.a2⟩) | (simp only [bsz, List.size_toArray, List.length_cons, List.length_nil]; omega) | (have k0 := hz2.ok.a0; have k1 := hz2.ok.a2; have f8 := quo_j x1.e hz2.ok; exact ⟨by (first | omega | (dsimp only <;> omega) | (simp (disch := omega) only [wrap_small, mid_eq, mid_eq1, mid_eq2, mid_eq3, List.length_map, List.length_set] <;> omega) | (simp (disch := omega) only [wrap_small, mid_eq, mid_eq1, mid_eq2, mid_eq3, List.length_map, List.length_set] at * <;> omega)), by (first | omega | (dsimp only <;> omega) | (simp (disch := omega) only [wrap_small, mid_eq, mid_eq1, mid_eq2, mid_eq3, List.length_map, List.length_set] <;> omega) | (simp (disch := omega) only [wrap_small, mid_eq, mid_eq1, mid_eq2, mid_eq3, List.length_map, List.length_set] at * <;> omega)), by (first | omega | (dsimp only <;> omega) | (simp (disch := omega) only [wrap_small, mid_eq, mid_eq1, mid_eq2, mid_eq3, List.length_map, List.length_set] <;> omega) | (simp (disch := omega) only [wrap_small, mid_eq, mid_eq1, mid_eq2, mid_eq3, List.length_map, List.length_set] at * <;> omega))⟩)), (FzAs.same _), (.same _), trivial, l27Reader, (spec_l27Must (l27Reader.mk v1.f_s x1.s v1.f_bad) (ByteArray.mk #[34])), (fun g => l27Reader.cells g), (fun g => .tup []), rfl, rfl, fun v2 hvv2 => ?_⟩⟩
  refine litE (m := 4) rfl ?_
  have hz7 := rdM hvv2 (ge_l27Must (by first | (first | assumption | exact hs | exact rd0 hs | exact hI2.1 | exact RdGe.ok (by assumption) | exact ⟨hs.a0, hs.a1, hs.a2⟩) | (have k0 := hz2.ok.a0; have k1 := hz2.ok.a2; have f8 := quo_j x1.e hz2.ok; exact ⟨by (first | omega | (dsimp only <;> omega) | (simp (disch := omega) only [wrap_small, mid_eq, mid_eq1, mid_eq2, mid_eq3, List.length_map, List.length_set] <;> omega) | (simp (disch := omega) only [wrap_small, mid_eq, mid_eq1, mid_eq2, mid_eq3, List.length_map, List.length_set] at * <;> omega)), by (first | omega | (dsimp only <;> omega) | (simp (disch := omega) only [wrap_small, mid_eq, mid_eq1, mid_eq2, mid_eq3, List.length_map, List.length_set] <;> omega) | (simp (disch := omega) only [wrap_small, mid_eq, mid_eq1, mid_eq2, mid_eq3, List.length_map, List.length_set] at * <;> omega)), by (first | omega | (dsimp only <;> omega) | (simp (disch := omega) only [wrap_small, mid_eq, mid_eq1, mid_eq2, mid_eq3, List.length_map, List.length_set] <;> omega) | (simp (disch := omega) only [wrap_small, mid_eq, mid_eq1, mid_eq2, mid_eq3, List.length_map, List.length_set] at * <;> omega))⟩)) (by first | assumption | (simp only [bsz, List.size_toArray, List.length_cons, List.length_nil]; omega)))
  refine litE (m := 4) rfl ?_
  have hg := bindE hvv2 hg
  refine seqE ?_
  exact leafB hown hg
theorem quoted_eq {r : l27Reader} (h : RdOk r) : spec_l27Quoted r = (bindV (spec_l27Must r (ByteArray.mk #[34])) fun v => ((v.f_s).extract v.f_at.toNat (scanTo notQ v.f_s v.f_at.toNat), spec_l27Must ⟨v.f_s, ((scanTo notQ v.f_s v.f_at.toNat : Nat) : Int), v.f_bad⟩ (ByteArray.mk #[34]))) := by
  have k := ge_l27Must (r := r) (t := ByteArray.mk #[34]) h (by decide)
  unfold spec_l27Quoted bindV spec_l27Quoted_j1
  dsimp only
  have q := quo_run k.ok
  dsimp only at q
  rw [q]
  simp only [Fin.get_fin, Step.get, Int.toNat_natCast]
theorem ge_l27Quoted {r : l27Reader} (h : RdOk r) : RdGe r (spec_l27Quoted r).2 := by
  have k := ge_l27Must (r := r) (t := ByteArray.mk #[34]) h (by decide)
  rw [quoted_eq h]
  unfold bindV
  generalize spec_l27Must r (ByteArray.mk #[34]) = v at k
  have k0 := k.ok.a0; have k1 := k.ok.a1
  have := scanTo_le (f := notQ) (s := v.f_s) (k := v.f_at.toNat) (by omega)
  have q : RdGe r ⟨v.f_s, ((scanTo notQ v.f_s v.f_at.toNat : Nat) : Int), v.f_bad⟩ := ⟨⟨by show (0 : Int) ≤ ((scanTo notQ v.f_s v.f_at.toNat : Nat) : Int); omega, by show ((scanTo notQ v.f_s v.f_at.toNat : Nat) : Int) ≤ ((v.f_s.size : Nat) : Int); omega, k.ok.a2⟩, k.s, Int.le_trans k.ge (by show v.f_at ≤ ((scanTo notQ v.f_s v.f_at.toNat : Nat) : Int); omega)⟩
  exact q.trans (ge_l27Must q.ok (by decide))
def spec_NameOk_b1 (p0 : ByteArray) (i1 : Nat) (s1 : Unit) : Step (Unit) Bool :=
  (bif (decide ((((p0).data.getD i1 0).toNat : Int) < 97)) then (.done false) else (bif (decide ((((p0).data.getD i1 0).toNat : Int) > 122)) then (.done false) else (.next ())))
def spec_NameOk (p0 : ByteArray) : Bool :=
  (Fin.get (fun s1 => (spec_l1In (((p0).size : Nat) : Int) 1 8)) (loopC (spec_NameOk_b1 p0) 0 () (p0).size))
theorem c_spec_NameOk (p0 : ByteArray) : FnOk prog 83 [.one (.v (.string p0))] ⟨.one (.v (.bool (spec_NameOk p0))), [], [], false⟩ := by
  refine FnOk.intro (E := env) envOk wide func83 rfl (by kernel_rfl) rfl rfl ?_
  have hg := spec_NameOk.eq_1 p0
  have hown : ∀ g : Bool, AV.Own (AV.one (.v (.bool g))) := fun g => .v _
  refine seqE ?_
  refine seqE ?_
  refine seqE ?_
  refine loopCE hg [0] (fun x1 => [(3, .one (.v (.int .i64 ((x1.i : Nat) : Int))))]) (fun x1 => []) [] ?_ (fun x1 => ?_)
  · exact ⟨rfl, ⟨rfl, rfl, trivial⟩, trivial, trivial⟩
  refine seqE ?_
  refine seqE ?_
  refine lenS fun hN1 => ?_
  refine tstL (fun hi1 => ?_) (fun hi1 => ?_)
  · have hb1 := (x1.bdy hi1).trans (spec_NameOk_b1.eq_1 ..)
    have hw1 := wrap_succ hi1 (by first | assumption | omega)
    refine seqE ?_
    refine seqE ?_
    refine andE (by (first | omega | (simp (disch := omega) only [wrap_small, mid_eq, List.length_map]; omega) | (simp; done) | (simp; omega) | (simp at *; omega) | (simp at *; done) | (simp_all; done) | (simp_all; omega))) ?_
    refine brDF hb1 (fun hb1 h2 => ?_) (fun hb1 h2 => ?_)
    · refine andE (by (first | omega | (simp (disch := omega) only [wrap_small, mid_eq, List.length_map]; omega) | (simp; done) | (simp; omega) | (simp at *; omega) | (simp at *; done) | (simp_all; done) | (simp_all; omega))) ?_
      refine brD hb1 (fun hb1 h3 => ?_) (fun hb1 h3 => x1.goE hi1 hb1 [] ⟨rfl, ⟨(eqInt hw1), rfl, trivial⟩, trivial, trivial⟩)
      refine seqE ?_
      have hg := donE hg (x1.outD hi1 hb1)
      exact leafE hown hg
    · refine seqE ?_
      have hg := donE hg (x1.outD hi1 hb1)
      exact leafE hown hg
  have hg := finE hg (x1.fin hi1)
  refine seqE ?_
  refine lenS fun hN4 => ?_
  refine .inl (⟨_, _, c_spec_l1In (((p0).size : Nat) : Int) 1 8, (FzAs.same _), ?_⟩)
  refine litE (m := 1) rfl ?_
  exact leafE hown hg
theorem main_NameOk (s : ByteArray) : spec_NameOk s = impl_NameOk s := rfl
def spec_PlainOk_b1 (p0 : ByteArray) (i1 : Nat) (s1 : Unit) : Step (Unit) Bool :=
  (bif (decide ((((p0).data.getD i1 0).toNat : Int) < 32)) then (.done false) else (bif (decide ((((p0).data.getD i1 0).toNat : Int) > 126)) then (.done false) else (bif ((((p0).data.getD i1 0).toNat : Int) == 34) then (.done false) else (.next ()))))
def spec_PlainOk (p0 : ByteArray) : Bool :=
  (Fin.get (fun s1 => (decide ((((p0).size : Nat) : Int) ≤ 20))) (loopC (spec_PlainOk_b1 p0) 0 () (p0).size))
theorem c_spec_PlainOk (p0 : ByteArray) : FnOk prog 84 [.one (.v (.string p0))] ⟨.one (.v (.bool (spec_PlainOk p0))), [], [], false⟩ := by
  refine FnOk.intro (E := env) envOk wide func84 rfl (by kernel_rfl) rfl rfl ?_
  have hg := spec_PlainOk.eq_1 p0
  have hown : ∀ g : Bool, AV.Own (AV.one (.v (.bool g))) := fun g => .v _
  refine seqE ?_
  refine seqE ?_
  refine seqE ?_
  refine loopCE hg [0] (fun x1 => [(3, .one (.v (.int .i64 ((x1.i : Nat) : Int))))]) (fun x1 => []) [] ?_ (fun x1 => ?_)
  · exact ⟨rfl, ⟨rfl, rfl, trivial⟩, trivial, trivial⟩
  refine seqE ?_
  refine seqE ?_
  refine lenS fun hN1 => ?_
  refine tstL (fun hi1 => ?_) (fun hi1 => ?_)
  · have hb1 := (x1.bdy hi1).trans (spec_PlainOk_b1.eq_1 ..)
    have hw1 := wrap_succ hi1 (by first | assumption | omega)
    refine seqE ?_
    refine seqE ?_
    refine andE (by (first | omega | (simp (disch := omega) only [wrap_small, mid_eq, List.length_map]; omega) | (simp; done) | (simp; omega) | (simp at *; omega) | (simp at *; done) | (simp_all; done) | (simp_all; omega))) ?_
    refine brDF hb1 (fun hb1 h2 => ?_) (fun hb1 h2 => ?_)
    · refine andE (by (first | omega | (simp (disch := omega) only [wrap_small, mid_eq, List.length_map]; omega) | (simp; done) | (simp; omega) | (simp at *; omega) | (simp at *; done) | (simp_all; done) | (simp_all; omega))) ?_
      refine brDF hb1 (fun hb1 h3 => ?_) (fun hb1 h3 => ?_)
      · refine andE (by (first | omega | (simp (disch := omega) only [wrap_small, mid_eq, List.length_map]; omega) | (simp; done) | (simp; omega) | (simp at *; omega) | (simp at *; done) | (simp_all; done) | (simp_all; omega))) ?_
        refine brQ hb1 (fun hb1 h4 => ?_) (fun hb1 h4 => x1.goE hi1 hb1 [] ⟨rfl, ⟨(eqInt hw1), rfl, trivial⟩, trivial, trivial⟩)
        refine seqE ?_
        have hg := donE hg (x1.outD hi1 hb1)
        exact leafE hown hg
      · refine seqE ?_
        have hg := donE hg (x1.outD hi1 hb1)
        exact leafE hown hg
    · refine seqE ?_
      have hg := donE hg (x1.outD hi1 hb1)
      exact leafE hown hg
  have hg := finE hg (x1.fin hi1)
  refine seqE ?_
  refine lenS fun hN5 => ?_
  exact leafE hown hg
theorem main_PlainOk (s : ByteArray) : spec_PlainOk s = impl_PlainOk s := by
  have e : spec_PlainOk_b1 s = impl_PlainOk_b1 s := by
    funext i u
    unfold spec_PlainOk_b1 impl_PlainOk_b1 impl_within
    have h := (s.data.getD i 0).toNat_lt
    generalize (s.data.getD i 0).toNat = n at h ⊢
    rw [Go.Ev.wrap_small (n := (n : Int)) (by omega) (by omega)]
    by_cases h1 : (n : Int) < 32
    · have h2 : ¬ (n : Int) ≥ 32 := by omega
      simp [h1, h2]
    · have h2 : (n : Int) ≥ 32 := by omega
      by_cases h3 : (n : Int) > 126
      · have h4 : ¬ (n : Int) ≤ 126 := by omega
        simp [h1, h2, h3, h4]
      · have h4 : (n : Int) ≤ 126 := by omega
        simp [h1, h2, h3, h4]
  unfold spec_PlainOk impl_PlainOk
  rw [e]
def spec_AttrOk (p0 : Attr) : Bool :=
  (bif (!(spec_NameOk p0.Key)) then false else (bif p0.Num then (bif (spec_l1In p0.N 0 2147483647) then (decide (p0.Text = (ByteArray.mk #[]))) else false) else (bif (p0.N == 0) then (spec_PlainOk p0.Text) else false)))
theorem c_spec_AttrOk (p0 : Attr) : FnOk prog 69 [.agg (Attr.cells p0)] ⟨.one (.v (.bool (spec_AttrOk p0))), [], [], false⟩ := by
  refine FnOk.intro (E := env) envOk wide func69 rfl (by kernel_rfl) rfl rfl ?_
  have hg := spec_AttrOk.eq_1 p0
  have hown : ∀ g : Bool, AV.Own (AV.one (.v (.bool g))) := fun g => .v _
  refine seqE ?_
  refine litE (m := 0) rfl ?_
  refine seqE ?_
  refine seqE ?_
  refine .inl (⟨_, _, c_spec_NameOk p0.Key, (FzAs.same _), ?_⟩)
  refine litE (m := 2) rfl ?_
  refine brE hg (fun hg h1 => ?_) (fun hg h1 => ?_)
  · refine seqE ?_
    exact leafE hown hg
  · refine seqE ?_
    refine seqE ?_
    refine brE hg (fun hg h2 => ?_) (fun hg h2 => ?_)
    · refine seqE ?_
      refine .inl (⟨_, _, c_spec_l1In p0.N 0 2147483647, (FzAs.same _), ?_⟩)
      refine litE (m := 3) rfl ?_
      exact brE hg (fun hg h3 => leafE hown hg) (fun hg h3 => leafE hown hg)
    · refine seqE ?_
      refine brQ hg (fun hg h4 => ?_) (fun hg h4 => leafE hown hg)
      refine .inl (⟨_, _, c_spec_PlainOk p0.Text, (FzAs.same _), ?_⟩)
      refine litE (m := 3) rfl ?_
      exact leafE hown hg
theorem main_AttrOk (a : Attr) : spec_AttrOk a = impl_AttrOk a := by
  unfold spec_AttrOk impl_AttrOk
  rw [main_NameOk, main_PlainOk, show spec_l1In a.N 0 2147483647 = impl_within a.N 0 2147483647 from rfl]
  cases impl_NameOk a.Key <;> cases a.Num <;> cases (a.N == 0) <;> cases impl_PlainOk a.Text <;> rfl
def spec_AttrsOk_b1 (p0 : (List Attr)) (i1 : Nat) (s1 : Unit) (a1 : Attr) : Step (Unit) Bool :=
  (bif (!(spec_AttrOk a1)) then (.done false) else (bif (decide (((i1 : Nat) : Int) > 0)) then (bif (!Op.bytesLess ((p0[((IntKind.i64.wrap (((i1 : Nat) : Int) - 1))).toNat]?.getD default).Key).toList (a1.Key).toList) then (.done false) else (.next ())) else (.next ())))
def spec_AttrsOk (p0 : (List Attr)) : Bool :=
  (Fin.get (fun s1 => (decide ((((p0).length : Nat) : Int) ≤ 4))) (loopL (spec_AttrsOk_b1 p0) 0 () p0))
theorem c_spec_AttrsOk (p0 : (List Attr)) : FnOk prog 67 [.one (.s false 4 (List.map Attr.cells p0))] ⟨.one (.v (.bool (spec_AttrsOk p0))), [], [], false⟩ := by
  refine FnOk.intro (E := env) envOk wide func67 rfl (by kernel_rfl) rfl rfl ?_
  have hg := spec_AttrsOk.eq_1 p0
  have hown : ∀ g : Bool, AV.Own (AV.one (.v (.bool g))) := fun g => .v _
  refine seqE ?_
  refine seqE ?_
  refine seqE ?_
  refine loopLE hg [0] (fun x1 => [(3, .one (.v (.int .i64 ((x1.i : Nat) : Int))))]) (fun x1 => []) [] ?_ (fun x1 => ?_)
  · exact ⟨rfl, ⟨rfl, rfl, trivial⟩, trivial, trivial⟩
  refine seqE ?_
  refine seqE ?_
  refine lenM fun hN1 => ?_
  refine tstL (fun hi1 => ?_) (fun hi1 => ?_)
  · have hb1 := (x1.bdy hi1).trans (spec_AttrsOk_b1.eq_1 ..)
    have hw1 := wrap_succ hi1 (by first | assumption | omega)
    refine seqE ?_
    refine seqE ?_
    refine .inl ⟨by kernel_rfl, ?_⟩
    refine idxAt hi1 ?_
    refine ⟨_, _, c_spec_AttrOk (p0[x1.i]'hi1), (FzAs.same _), ?_⟩
    refine brF hb1 (fun hb1 h2 => ?_) (fun hb1 h2 => ?_)
    · refine brD hb1 (fun hb1 h3 => ?_) (fun hb1 h3 => x1.goE hi1 hb1 [] ⟨rfl, ⟨(eqInt hw1), rfl, trivial⟩, trivial, trivial⟩)
      refine idxOf (l := p0) (by have hj : x1.i < p0.length := hi1; have h9 : ((x1.i : Nat) : Int) > 0 := (by assumption); rw [Go.Ev.wrap_small (n := ((x1.i : Nat) : Int) - 1) (by omega) (by omega)]; omega) (fun hq4 => ?_)
      refine idxAt hi1 ?_
      refine brE hb1 (fun hb1 h5 => ?_) (fun hb1 h5 => x1.goE hi1 hb1 [] ⟨rfl, ⟨(eqInt hw1), rfl, trivial⟩, trivial, trivial⟩)
      refine seqE ?_
      have hg := donE hg (x1.outD hi1 hb1)
      exact leafE hown hg
    · refine seqE ?_
      have hg := donE hg (x1.outD hi1 hb1)
      exact leafE hown hg
  have hg := finE hg (x1.fin hi1)
  refine seqE ?_
  refine lenM fun hN6 => ?_
  exact leafE hown hg
theorem main_AttrsOk (l : List Attr) : spec_AttrsOk l = impl_AttrsOk l := by
  unfold spec_AttrsOk impl_AttrsOk
  rw [loopL_congr l 0 () fun i u a _ => (by unfold spec_AttrsOk_b1 impl_AttrsOk_b1; rw [main_AttrOk] : spec_AttrsOk_b1 l i u a = impl_AttrsOk_b1 l i u a)]
def spec_AttrSize (p0 : Attr) : Int :=
  (bif p0.Num then (IntKind.i64.wrap ((((p0.Key).size : Nat) : Int) + 4)) else (IntKind.i64.wrap ((((p0.Key).size : Nat) : Int) + (((p0.Text).size : Nat) : Int))))
theorem c_spec_AttrSize (p0 : Attr) : FnOk prog 82 [.agg (Attr.cells p0)] ⟨.one (.v (.int .i64 (spec_AttrSize p0))), [], [], false⟩ := by
  refine FnOk.intro (E := env) envOk wide func82 rfl (by kernel_rfl) rfl rfl ?_
  have hg := spec_AttrSize.eq_1 p0
  have hown : ∀ g : Int, AV.Own (AV.one (.v (.int .i64 g))) := fun g => .v _
  refine seqE ?_
  refine litE (m := 0) rfl ?_
  refine seqE ?_
  refine seqE ?_
  refine brE hg (fun hg h1 => ?_) (fun hg h1 => ?_)
  · refine seqE ?_
    refine lenS fun hN2 => ?_
    exact leafE hown hg
  · refine seqE ?_
    refine lenS fun hN3 => ?_
    refine lenS fun hN4 => ?_
    exact leafE hown hg
def spec_SizeOf_b1 (i1 : Nat) (s1 : Int) (a1 : Attr) : Step (Int) Int :=
  (.next (IntKind.i64.wrap (s1 + (spec_AttrSize a1))))
def spec_SizeOf (p0 : Span) : Int :=
  (Fin.get (fun s1 => s1) (loopL spec_SizeOf_b1 0 12 p0.Attrs))
theorem c_spec_SizeOf (p0 : Span) : FnOk prog 68 [.agg ((Span.cells false) p0)] ⟨.one (.v (.int .i64 (spec_SizeOf p0))), [], [], false⟩ := by
  refine FnOk.intro (E := env) envOk wide func68 rfl (by kernel_rfl) rfl rfl ?_
  have hg := spec_SizeOf.eq_1 p0
  have hown : ∀ g : Int, AV.Own (AV.one (.v (.int .i64 g))) := fun g => .v _
  refine seqE ?_
  refine litE (m := 0) rfl ?_
  refine seqE ?_
  refine seqE ?_
  refine seqE ?_
  refine loopLE hg [1] (fun x1 => [(3, .one (.v (.int .i64 x1.s))), (4, .one (.v (.int .i64 ((x1.i : Nat) : Int))))]) (fun x1 => [.keep 0]) [some 0] ?_ (fun x1 => ?_)
  · exact ⟨rfl, ⟨rfl, rfl, ⟨rfl, rfl, rfl, rfl⟩, trivial⟩, ⟨⟨rfl, rfl, ⟨rfl, rfl, rfl, rfl, rfl, rfl, trivial⟩⟩, trivial⟩, trivial⟩
  refine seqE ?_
  refine seqE ?_
  refine lenM fun hN1 => ?_
  refine tstL (fun hi1 => ?_) (fun hi1 => ?_)
  · have hb1 := (x1.bdy hi1).trans (spec_SizeOf_b1.eq_1 ..)
    have hw1 := wrap_succ hi1 (by first | assumption | omega)
    refine seqE ?_
    refine idxAt hi1 ?_
    refine .inl (⟨_, _, c_spec_AttrSize (p0.Attrs[x1.i]'hi1), (FzAs.same _), ?_⟩)
    refine litE (m := 2) rfl ?_
    exact x1.goE hi1 hb1 [some 0] ⟨rfl, ⟨rfl, (eqInt hw1), ⟨rfl, rfl, rfl, rfl⟩, trivial⟩, ⟨⟨rfl, rfl, ⟨rfl, rfl, rfl, rfl, rfl, rfl, trivial⟩⟩, trivial⟩, trivial⟩
  have hg := finE hg (x1.fin hi1)
  refine seqE ?_
  exact leafE hown hg
theorem main_SizeOf (s : Span) : spec_SizeOf s = impl_SizeOf s := rfl
def spec_SpanOk (p0 : Span) : Bool :=
  (bif (spec_l1In p0.Trace 1 999) then (bif (spec_l1In p0.Id 1 999) then (bif (spec_l1In p0.Start 0 99999) then (bif (spec_l1In p0.End p0.Start 99999) then (bif (spec_AttrsOk p0.Attrs) then (decide ((spec_SizeOf p0) ≤ 96)) else false) else false) else false) else false) else false)
theorem c_spec_SpanOk (p0 : Span) : FnOk prog 43 [.agg ((Span.cells false) p0)] ⟨.one (.v (.bool (spec_SpanOk p0))), [], [], false⟩ := by
  refine FnOk.intro (E := env) envOk wide func43 rfl (by kernel_rfl) rfl rfl ?_
  have hg := spec_SpanOk.eq_1 p0
  have hown : ∀ g : Bool, AV.Own (AV.one (.v (.bool g))) := fun g => .v _
  refine seqE ?_
  refine litE (m := 0) rfl ?_
  refine seqE ?_
  refine .inl (⟨_, _, c_spec_l1In p0.Trace 1 999, (FzAs.same _), ?_⟩)
  refine litE (m := 2) rfl ?_
  refine brE hg (fun hg h1 => ?_) (fun hg h1 => leafE hown hg)
  refine .inl (⟨_, _, c_spec_l1In p0.Id 1 999, (FzAs.same _), ?_⟩)
  refine litE (m := 3) rfl ?_
  refine brE hg (fun hg h2 => ?_) (fun hg h2 => leafE hown hg)
  refine .inl (⟨_, _, c_spec_l1In p0.Start 0 99999, (FzAs.same _), ?_⟩)
  refine litE (m := 4) rfl ?_
  refine brE hg (fun hg h3 => ?_) (fun hg h3 => leafE hown hg)
  refine .inl (⟨_, _, c_spec_l1In p0.End p0.Start 99999, (FzAs.same _), ?_⟩)
  refine litE (m := 5) rfl ?_
  refine brE hg (fun hg h4 => ?_) (fun hg h4 => leafE hown hg)
  refine .inl (⟨_, _, c_spec_AttrsOk p0.Attrs, (FzAs.same _), ?_⟩)
  refine litE (m := 6) rfl ?_
  refine brE hg (fun hg h5 => ?_) (fun hg h5 => leafE hown hg)
  refine .inl (⟨_, _, c_spec_SizeOf p0, (FzAs.same _), ?_⟩)
  refine litE (m := 7) rfl ?_
  exact leafE hown hg
theorem main_SpanOk (s : Span) : spec_SpanOk s = impl_SpanOk s := by
  unfold spec_SpanOk impl_SpanOk
  rw [main_AttrsOk, main_SizeOf, show spec_l1In s.Trace 1 999 = impl_within s.Trace 1 999 from rfl, show spec_l1In s.Id 1 999 = impl_within s.Id 1 999 from rfl]
  have e : (bif spec_l1In s.Start 0 99999 then spec_l1In s.End s.Start 99999 else false) = (bif impl_within s.End 0 99999 then impl_within s.Start 0 s.End else false) := by
    unfold spec_l1In impl_within
    rw [Bool.eq_iff_iff]
    simp only [Bool.cond_eq_ite]
    repeat' split
    all_goals simp_all
    all_goals omega
  cases impl_within s.Trace 1 999 <;> cases impl_within s.Id 1 999 <;> simp only [cond_true, cond_false]
  revert e
  cases spec_l1In s.Start 0 99999 <;> cases spec_l1In s.End s.Start 99999 <;> cases impl_within s.End 0 99999 <;> cases impl_within s.Start 0 s.End <;> simp
def spec_NumText_b1 (s1 : ByteArray × Int) : Step (ByteArray × Int) ByteArray :=
  (bif (s1.2 != 0) then (bif (decide ((Int.tmod s1.2 10) < 0)) then (.next (((strOfNums [(IntKind.u8.wrap (IntKind.i64.wrap (48 + (IntKind.i64.wrap (0 - (Int.tmod s1.2 10))))))]) ++ s1.1), (IntKind.i64.wrap (Int.tdiv s1.2 10)))) else (.next (((strOfNums [(IntKind.u8.wrap (IntKind.i64.wrap (48 + (Int.tmod s1.2 10))))]) ++ s1.1), (IntKind.i64.wrap (Int.tdiv s1.2 10))))) else (.stop (s1.1, s1.2)))
def spec_NumText (p0 : Int) : ByteArray :=
  (bif (p0 == 0) then (ByteArray.mk #[48]) else (Fin.get (fun s1 => (bif (decide (p0 < 0)) then ((ByteArray.mk #[45]) ++ s1.1) else s1.1)) (loopW spec_NumText_b1 (ntM ((ByteArray.mk #[]), p0)) ((ByteArray.mk #[]), p0))))
theorem cr_spec_NumText (p0 : Int) (hr0 : I64 p0) : FnOk prog 44 [.one (.v (.int .i64 p0))] ⟨.one (.v (.string (spec_NumText p0))), [], [], false⟩ := by
  refine FnOk.intro (E := env) envOk wide func44 rfl (by kernel_rfl) rfl rfl ?_
  have hg := spec_NumText.eq_1 p0
  have hown : ∀ g : ByteArray, AV.Own (AV.one (.v (.string g))) := fun g => .v _
  refine seqE ?_
  refine seqE ?_
  refine seqE ?_
  refine brQ hg (fun hg h1 => ?_) (fun hg h1 => ?_)
  · refine seqE ?_
    exact leafE hown hg
  · refine seqE ?_
    refine seqE ?_
    refine seqE ?_
    refine loopWE (m := ntM) (s0 := ((ByteArray.mk #[]), p0)) ntInv hg (by left; have := hr0.1; have := hr0.2; exact ⟨rfl, by show Int.natAbs p0 ≤ _; omega⟩) [0] (fun x1 => [(3, .one (.v (.string x1.s.1))), (4, .one (.v (.int .i64 x1.s.2)))]) (fun x1 => []) [] ?_ (fun x1 => ?_)
    · exact ⟨rfl, ⟨rfl, rfl, rfl, trivial⟩, trivial, trivial⟩
    have hI1 := x1.hI
    try dsimp only at hI1
    have hb1 := x1.bdy.trans (spec_NumText_b1.eq_1 ..)
    refine seqE ?_
    refine seqE ?_
    refine brW hb1 (fun hb1 h2 => ?_) (fun hb1 h2 => ?_)
    · refine seqE ?_
      refine seqE ?_
      refine andE (by (first | omega | (simp (disch := omega) only [wrap_small, mid_eq, List.length_map]; omega) | (simp; done) | (simp; omega) | (simp at *; omega) | (simp at *; done) | (simp_all; done) | (simp_all; omega))) ?_
      refine seqE ?_
      refine seqE ?_
      refine brD hb1 (fun hb1 h3 => ?_) (fun hb1 h3 => ?_)
      · refine .inl (litE (m := 0) rfl ?_)
        refine andE (by first | exact nt_cat x1.hI h2 | exact nt_cat2 x1.hI) ?_
        refine andE (by (first | omega | (simp (disch := omega) only [wrap_small, mid_eq, List.length_map]; omega) | (simp; done) | (simp; omega) | (simp at *; omega) | (simp at *; done) | (simp_all; done) | (simp_all; omega))) ?_
        exact x1.goE hb1 (show ntInv (((strOfNums [(IntKind.u8.wrap (IntKind.i64.wrap (48 + (IntKind.i64.wrap (0 - (Int.tmod x1.s.2 10))))))]) ++ x1.s.1), (IntKind.i64.wrap (Int.tdiv x1.s.2 10))) ∧ ntM (((strOfNums [(IntKind.u8.wrap (IntKind.i64.wrap (48 + (IntKind.i64.wrap (0 - (Int.tmod x1.s.2 10))))))]) ++ x1.s.1), (IntKind.i64.wrap (Int.tdiv x1.s.2 10))) < ntM x1.s by exact nt_step x1.hI (by simpa using h2)) [] ⟨rfl, ⟨rfl, rfl, rfl, trivial⟩, trivial, trivial⟩
      · refine .inl (litE (m := 0) rfl ?_)
        refine andE (by first | exact nt_cat x1.hI h2 | exact nt_cat2 x1.hI) ?_
        refine andE (by (first | omega | (simp (disch := omega) only [wrap_small, mid_eq, List.length_map]; omega) | (simp; done) | (simp; omega) | (simp at *; omega) | (simp at *; done) | (simp_all; done) | (simp_all; omega))) ?_
        exact x1.goE hb1 (show ntInv (((strOfNums [(IntKind.u8.wrap (IntKind.i64.wrap (48 + (Int.tmod x1.s.2 10))))]) ++ x1.s.1), (IntKind.i64.wrap (Int.tdiv x1.s.2 10))) ∧ ntM (((strOfNums [(IntKind.u8.wrap (IntKind.i64.wrap (48 + (Int.tmod x1.s.2 10))))]) ++ x1.s.1), (IntKind.i64.wrap (Int.tdiv x1.s.2 10))) < ntM x1.s by exact nt_step x1.hI (by simpa using h2)) [] ⟨rfl, ⟨rfl, rfl, rfl, trivial⟩, trivial, trivial⟩
    · have hg := finE hg (x1.outS hb1)
      refine seqE ?_
      refine seqE ?_
      refine brD hg (fun hg h4 => ?_) (fun hg h4 => ?_)
      · refine seqE ?_
        refine andE (by first | exact nt_cat x1.hI h2 | exact nt_cat2 x1.hI) ?_
        exact leafE hown hg
      · refine seqE ?_
        exact leafE hown hg
theorem c_spec_NumText (p0 : Int) : FnOk prog 44 [.one (.v (.int .i64 p0))] ⟨.one (.v (.string (spec_NumText p0))), [], [], false⟩ :=
  FnOk.fits ⟨_, func44, by kernel_rfl, by kernel_rfl⟩ (fun hf => cr_spec_NumText p0 (range_of_fit hf.1))
theorem nt_b1 {s : ByteArray} {x : Int} (hx : x ≠ 0) (h : x.natAbs ≤ 9223372036854775808) : ∃ y, spec_NumText_b1 (s, x) = .next (ByteArray.mk #[UInt8.ofNat (48 + x.natAbs % 10)] ++ s, y) ∧ y.natAbs = x.natAbs / 10 := by
  refine ⟨_, ?_, nt_abs h⟩
  have h0 : (x != 0) = true := by simpa using hx
  have hm : (x.tmod 10).natAbs = x.natAbs % 10 := by rw [Int.natAbs_tmod]; rfl
  have u8w : ∀ k : Nat, k < 10 → strOfNums [IntKind.u8.wrap (IntKind.i64.wrap (48 + (k : Int)))] = ByteArray.mk #[UInt8.ofNat (48 + k)] := by
    intro k hk
    rw [Go.Ev.wrap_small (n := 48 + (k : Int)) (by omega) (by omega)]
    have : IntKind.u8.wrap (48 + (k : Int)) = ((48 + k : Nat) : Int) := by
      simp [IntKind.wrap, IntKind.bits, IntKind.signed]; omega
    rw [this]; rfl
  unfold spec_NumText_b1
  simp only [h0, cond_true]
  cases hd : decide (x.tmod 10 < 0) with
  | true =>
    rw [decide_eq_true_eq] at hd
    have e : IntKind.i64.wrap (0 - x.tmod 10) = ((x.natAbs % 10 : Nat) : Int) := by rw [Go.Ev.wrap_small (n := 0 - x.tmod 10) (by omega) (by omega)]; omega
    simp only [cond_true]
    rw [e, u8w _ (by omega)]
  | false =>
    rw [decide_eq_false_iff_not] at hd
    have e : x.tmod 10 = ((x.natAbs % 10 : Nat) : Int) := by omega
    simp only [cond_false]
    rw [e, u8w _ (by omega)]
theorem mk_app (a b : List UInt8) : ByteArray.mk (a ++ b).toArray = ByteArray.mk a.toArray ++ ByteArray.mk b.toArray := by
  apply ByteArray.ext
  simp [ByteArray.data_append]
theorem nt_loop : ∀ (u N : Nat) (s : ByteArray) (x : Int), x.natAbs = u → u ≤ N → u ≤ 9223372036854775808 → ∃ y, loopW spec_NumText_b1 N (s, x) = .fin ((if u = 0 then s else ByteArray.mk (Lib.decDigits u).toArray ++ s), y) := by
  intro u
  induction u using Nat.strongRecOn with
  | _ u ih =>
    intro N s x hx hN hu
    by_cases h0 : u = 0
    · have : x = 0 := by omega
      subst this
      refine ⟨0, ?_⟩
      cases N <;> simp [loopW, spec_NumText_b1, Step.fin, h0]
    · obtain ⟨N, rfl⟩ : ∃ n, N = n + 1 := ⟨N - 1, by omega⟩
      obtain ⟨y, e, hy⟩ := nt_b1 (s := s) (x := x) (by omega) (by omega)
      rw [loopW, e]
      simp only
      obtain ⟨z, hz⟩ := ih (u / 10) (by omega) N (ByteArray.mk #[UInt8.ofNat (48 + x.natAbs % 10)] ++ s) y (by omega) (by omega) (by omega)
      refine ⟨z, ?_⟩
      rw [hz, hx, if_neg h0]
      congr 2
      by_cases h1 : u / 10 = 0
      · rw [if_pos h1, Lib.decDigits, dif_pos (by omega), Nat.mod_eq_of_lt (by omega)]
      · rw [if_neg h1, ← ByteArray.append_assoc]
        congr 1
        conv => rhs; rw [Lib.decDigits, dif_neg (by omega : ¬ u < 10)]
        rw [mk_app]
theorem main_NumText {n : Int} (h : I64 n) : spec_NumText n = itoaS n := by
  have h1 := h.1
  have h2 := h.2
  unfold spec_NumText
  by_cases h0 : n = 0
  · subst h0
    simp [itoaS, Lib.itoa, Lib.decDigits]
  · have e0 : (n == 0) = false := by simpa using h0
    simp only [e0, cond_false]
    obtain ⟨y, hy⟩ := nt_loop n.natAbs n.natAbs (ByteArray.mk #[]) n rfl (Nat.le_refl _) (by omega)
    have e1 : ntM (ByteArray.mk #[], n) = n.natAbs := rfl
    rw [e1, hy, if_neg (by omega)]
    have ee : ∀ b : ByteArray, b ++ ByteArray.mk #[] = b := fun b => by apply ByteArray.ext; simp [ByteArray.data_append]
    simp only [Fin.get, ee]
    by_cases hn : n < 0
    · have e2 : decide (n < 0) = true := by simpa using hn
      simp only [e2, cond_true]
      rw [itoaS, Lib.itoa, if_pos hn]
      exact (mk_app [45] _).symm
    · have e2 : decide (n < 0) = false := by simpa using hn
      simp only [e2, cond_false]
      rw [itoaS, Lib.itoa, if_neg hn]
      congr 3
      omega
theorem size_spec_NumText {n : Int} (h : I64 n) : (spec_NumText n).size ≤ 20 := by
  rw [main_NumText h]; exact itoaS_size h.1 h.2
def spec_AttrText (p0 : Attr) : ByteArray :=
  (bif (!(spec_AttrOk p0)) then (ByteArray.mk #[]) else (bif p0.Num then ((p0.Key ++ (ByteArray.mk #[61])) ++ (spec_NumText p0.N)) else (((p0.Key ++ (ByteArray.mk #[61, 34])) ++ p0.Text) ++ (ByteArray.mk #[34]))))
theorem cr_spec_AttrText (p0 : Attr) (hr0 : Attr.rg p0) : FnOk prog 45 [.agg (Attr.cells p0)] ⟨.one (.v (.string (spec_AttrText p0))), [], [], false⟩ := by
  refine FnOk.intro (E := env) envOk wide func45 rfl (by kernel_rfl) rfl rfl ?_
  have hg := spec_AttrText.eq_1 p0
  have hown : ∀ g : ByteArray, AV.Own (AV.one (.v (.string g))) := fun g => .v _
  refine seqE ?_
  refine litE (m := 0) rfl ?_
  refine seqE ?_
  refine seqE ?_
  refine .inl (⟨_, _, c_spec_AttrOk p0, (FzAs.same _), ?_⟩)
  refine litE (m := 2) rfl ?_
  refine brE hg (fun hg h1 => ?_) (fun hg h1 => ?_)
  · refine seqE ?_
    exact leafE hown hg
  · refine seqE ?_
    refine seqE ?_
    refine brE hg (fun hg h2 => ?_) (fun hg h2 => ?_)
    · refine seqE ?_
      refine .inl ⟨by kernel_rfl, ?_⟩
      refine andE (by have ho := impl_AttrOk_size (a := p0) (by rw [← main_AttrOk]; simpa using h1); have hz := size_spec_NumText hr0.N; (try have ht := ho.2 h2); (try simp only [ByteArray.size_append]); simp only [bsz, List.size_toArray, List.length_cons, List.length_nil]; omega) ?_
      refine ⟨_, _, c_spec_NumText p0.N, (FzAs.same _), ?_⟩
      refine andE (by have ho := impl_AttrOk_size (a := p0) (by rw [← main_AttrOk]; simpa using h1); have hz := size_spec_NumText hr0.N; (try have ht := ho.2 h2); (try simp only [ByteArray.size_append]); simp only [bsz, List.size_toArray, List.length_cons, List.length_nil]; omega) ?_
      exact leafE hown hg
    · refine seqE ?_
      refine andE (by have ho := impl_AttrOk_size (a := p0) (by rw [← main_AttrOk]; simpa using h1); have hz := size_spec_NumText hr0.N; (try have ht := ho.2 h2); (try simp only [ByteArray.size_append]); simp only [bsz, List.size_toArray, List.length_cons, List.length_nil]; omega) ?_
      refine andE (by have ho := impl_AttrOk_size (a := p0) (by rw [← main_AttrOk]; simpa using h1); have hz := size_spec_NumText hr0.N; (try have ht := ho.2 h2); (try simp only [ByteArray.size_append]); simp only [bsz, List.size_toArray, List.length_cons, List.length_nil]; omega) ?_
      refine andE (by have ho := impl_AttrOk_size (a := p0) (by rw [← main_AttrOk]; simpa using h1); have hz := size_spec_NumText hr0.N; (try have ht := ho.2 h2); (try simp only [ByteArray.size_append]); simp only [bsz, List.size_toArray, List.length_cons, List.length_nil]; omega) ?_
      exact leafE hown hg
theorem c_spec_AttrText (p0 : Attr) : FnOk prog 45 [.agg (Attr.cells p0)] ⟨.one (.v (.string (spec_AttrText p0))), [], [], false⟩ :=
  FnOk.fits ⟨_, func45, by kernel_rfl, by kernel_rfl⟩ (fun hf => cr_spec_AttrText p0 (rg_Attr hf.1))
theorem main_AttrText {a : Attr} (h : I64 a.N) : spec_AttrText a = impl_AttrText a := by
  unfold spec_AttrText impl_AttrText
  rw [main_AttrOk, main_NumText h]
  rfl
def spec_SpanText_j1 (p0 : Span) : Step (ByteArray) ByteArray :=
  (bif p0.Err then (.next ((((((((spec_NumText p0.Trace) ++ (ByteArray.mk #[47])) ++ (spec_NumText p0.Id)) ++ (ByteArray.mk #[32])) ++ (spec_NumText p0.Start)) ++ (ByteArray.mk #[45])) ++ (spec_NumText p0.End)) ++ (ByteArray.mk #[32, 102, 97, 105, 108, 101, 100]))) else (.next (((((((spec_NumText p0.Trace) ++ (ByteArray.mk #[47])) ++ (spec_NumText p0.Id)) ++ (ByteArray.mk #[32])) ++ (spec_NumText p0.Start)) ++ (ByteArray.mk #[45])) ++ (spec_NumText p0.End))))
def spec_SpanText_b2 (i2 : Nat) (s2 : ByteArray) (a2 : Attr) : Step (ByteArray) ByteArray :=
  (.next ((s2 ++ (ByteArray.mk #[32])) ++ (spec_AttrText a2)))
def spec_SpanText (p0 : Span) : ByteArray :=
  (bif (!(spec_SpanOk p0)) then (ByteArray.mk #[]) else (Step.get (fun s1 => (Fin.get (fun s2 => s2) (loopL spec_SpanText_b2 0 s1 p0.Attrs))) (spec_SpanText_j1 p0)))
theorem specJ {s : Span} {v : ByteArray} (e : spec_SpanText_j1 s = .next v) (h : Span.rg s) : v.size ≤ 200 := by
  have z1 := size_spec_NumText h.Trace; have z2 := size_spec_NumText h.Id; have z3 := size_spec_NumText h.Start; have z4 := size_spec_NumText h.End
  unfold spec_SpanText_j1 at e
  cases he : s.Err with
  | true => rw [he, cond_true] at e; cases e; simp only [ByteArray.size_append, bsz, List.size_toArray, List.length_cons, List.length_nil]; omega
  | false => rw [he, cond_false] at e; cases e; simp only [ByteArray.size_append, bsz, List.size_toArray, List.length_cons, List.length_nil]; omega
theorem cr_spec_SpanText (p0 : Span) (hr0 : Span.rg p0) : FnOk prog 21 [.agg ((Span.cells false) p0)] ⟨.one (.v (.string (spec_SpanText p0))), [], [], false⟩ := by
  refine FnOk.intro (E := env) envOk wide func21 rfl (by kernel_rfl) rfl rfl ?_
  have hg := spec_SpanText.eq_1 p0
  have hown : ∀ g : ByteArray, AV.Own (AV.one (.v (.string g))) := fun g => .v _
  refine seqE ?_
  refine litE (m := 0) rfl ?_
  refine seqE ?_
  refine seqE ?_
  refine .inl (⟨_, _, c_spec_SpanOk p0, (FzAs.same _), ?_⟩)
  refine litE (m := 2) rfl ?_
  refine brE hg (fun hg h1 => ?_) (fun hg h1 => ?_)
  · refine seqE ?_
    exact leafE hown hg
  · refine seqE ?_
    refine .inl ⟨by kernel_rfl, ?_⟩
    refine ⟨_, _, c_spec_NumText p0.Trace, (FzAs.same _), ?_⟩
    refine andE (by have z1 := size_spec_NumText hr0.Trace; have z2 := size_spec_NumText hr0.Id; have z3 := size_spec_NumText hr0.Start; have z4 := size_spec_NumText hr0.End; have hl := impl_SpanOk_len (s := p0) (by simpa [main_SpanOk] using h1); (try have y2 := impl_AttrText_size (hr0.Attrs.2 _ (List.getElem_mem hi2)).N); (try rw [← main_AttrText (hr0.Attrs.2 _ (List.getElem_mem hi2)).N] at y2); (try have q2 := hI2); (try simp only [ByteArray.size_append]); simp only [bsz, List.size_toArray, List.length_cons, List.length_nil]; omega) ?_
    refine ⟨_, _, c_spec_NumText p0.Id, (FzAs.same _), ?_⟩
    refine andE (by have z1 := size_spec_NumText hr0.Trace; have z2 := size_spec_NumText hr0.Id; have z3 := size_spec_NumText hr0.Start; have z4 := size_spec_NumText hr0.End; have hl := impl_SpanOk_len (s := p0) (by simpa [main_SpanOk] using h1); (try have y2 := impl_AttrText_size (hr0.Attrs.2 _ (List.getElem_mem hi2)).N); (try rw [← main_AttrText (hr0.Attrs.2 _ (List.getElem_mem hi2)).N] at y2); (try have q2 := hI2); (try simp only [ByteArray.size_append]); simp only [bsz, List.size_toArray, List.length_cons, List.length_nil]; omega) ?_
    refine andE (by have z1 := size_spec_NumText hr0.Trace; have z2 := size_spec_NumText hr0.Id; have z3 := size_spec_NumText hr0.Start; have z4 := size_spec_NumText hr0.End; have hl := impl_SpanOk_len (s := p0) (by simpa [main_SpanOk] using h1); (try have y2 := impl_AttrText_size (hr0.Attrs.2 _ (List.getElem_mem hi2)).N); (try rw [← main_AttrText (hr0.Attrs.2 _ (List.getElem_mem hi2)).N] at y2); (try have q2 := hI2); (try simp only [ByteArray.size_append]); simp only [bsz, List.size_toArray, List.length_cons, List.length_nil]; omega) ?_
    refine ⟨_, _, c_spec_NumText p0.Start, (FzAs.same _), ?_⟩
    refine andE (by have z1 := size_spec_NumText hr0.Trace; have z2 := size_spec_NumText hr0.Id; have z3 := size_spec_NumText hr0.Start; have z4 := size_spec_NumText hr0.End; have hl := impl_SpanOk_len (s := p0) (by simpa [main_SpanOk] using h1); (try have y2 := impl_AttrText_size (hr0.Attrs.2 _ (List.getElem_mem hi2)).N); (try rw [← main_AttrText (hr0.Attrs.2 _ (List.getElem_mem hi2)).N] at y2); (try have q2 := hI2); (try simp only [ByteArray.size_append]); simp only [bsz, List.size_toArray, List.length_cons, List.length_nil]; omega) ?_
    refine andE (by have z1 := size_spec_NumText hr0.Trace; have z2 := size_spec_NumText hr0.Id; have z3 := size_spec_NumText hr0.Start; have z4 := size_spec_NumText hr0.End; have hl := impl_SpanOk_len (s := p0) (by simpa [main_SpanOk] using h1); (try have y2 := impl_AttrText_size (hr0.Attrs.2 _ (List.getElem_mem hi2)).N); (try rw [← main_AttrText (hr0.Attrs.2 _ (List.getElem_mem hi2)).N] at y2); (try have q2 := hI2); (try simp only [ByteArray.size_append]); simp only [bsz, List.size_toArray, List.length_cons, List.length_nil]; omega) ?_
    refine ⟨_, _, c_spec_NumText p0.End, (FzAs.same _), ?_⟩
    refine andE (by have z1 := size_spec_NumText hr0.Trace; have z2 := size_spec_NumText hr0.Id; have z3 := size_spec_NumText hr0.Start; have z4 := size_spec_NumText hr0.End; have hl := impl_SpanOk_len (s := p0) (by simpa [main_SpanOk] using h1); (try have y2 := impl_AttrText_size (hr0.Attrs.2 _ (List.getElem_mem hi2)).N); (try rw [← main_AttrText (hr0.Attrs.2 _ (List.getElem_mem hi2)).N] at y2); (try have q2 := hI2); (try simp only [ByteArray.size_append]); simp only [bsz, List.size_toArray, List.length_cons, List.length_nil]; omega) ?_
    refine joinE hg [1] (fun x1 => [(3, .one (.v (.string x1.s)))]) (fun x1 => [.keep 0, .dead]) (fun hb1 => ?_) (fun x1 hg => ?_)
    · have hb1 := hb1.trans (spec_SpanText_j1.eq_1 ..)
      refine seqE ?_
      refine brE hb1 (fun hb1 h2 => ?_) (fun hb1 h2 => .inl ⟨⟨_, hb1⟩, [some 0, none], ⟨rfl, ⟨rfl, ⟨rfl, rfl, rfl, rfl⟩, trivial⟩, ⟨⟨rfl, rfl, ⟨rfl, rfl, rfl, rfl, rfl, rfl, trivial⟩⟩, trivial⟩, trivial⟩⟩)
      refine andE (by have z1 := size_spec_NumText hr0.Trace; have z2 := size_spec_NumText hr0.Id; have z3 := size_spec_NumText hr0.Start; have z4 := size_spec_NumText hr0.End; have hl := impl_SpanOk_len (s := p0) (by simpa [main_SpanOk] using h1); (try have y2 := impl_AttrText_size (hr0.Attrs.2 _ (List.getElem_mem hi2)).N); (try rw [← main_AttrText (hr0.Attrs.2 _ (List.getElem_mem hi2)).N] at y2); (try have q2 := hI2); (try simp only [ByteArray.size_append]); simp only [bsz, List.size_toArray, List.length_cons, List.length_nil]; omega) ?_
      exact .inl ⟨⟨_, hb1⟩, [some 0, none], ⟨rfl, ⟨rfl, ⟨rfl, rfl, rfl, rfl⟩, trivial⟩, ⟨⟨rfl, rfl, ⟨rfl, rfl, rfl, rfl, rfl, rfl, trivial⟩⟩, trivial⟩, trivial⟩⟩
    have hJ := specJ x1.e hr0
    refine seqE ?_
    refine seqE ?_
    refine loopLI (fun (i : Nat) (s : ByteArray) => s.size ≤ 200 + 50 * i) hg (by have q := hJ; omega) [1] (fun x2 => [(3, .one (.v (.string x2.s))), (4, .one (.v (.int .i64 ((x2.i : Nat) : Int))))]) (fun x2 => [.keep 0, .dead]) [some 0, none] ?_ (fun x2 => ?_)
    · exact ⟨rfl, ⟨rfl, rfl, ⟨rfl, rfl, rfl, rfl⟩, trivial⟩, ⟨⟨rfl, rfl, ⟨rfl, rfl, rfl, rfl, rfl, rfl, trivial⟩⟩, trivial⟩, trivial⟩
    have hI2 := x2.hI
    try dsimp only at hI2
    refine seqE ?_
    refine seqE ?_
    refine lenM fun hN3 => ?_
    refine tstL (fun hi2 => ?_) (fun hi2 => ?_)
    · have hb2 := (x2.bdy hi2).trans (spec_SpanText_b2.eq_1 ..)
      have hw2 := wrap_succ hi2 (by first | assumption | omega)
      refine seqE ?_
      refine andE (by have z1 := size_spec_NumText hr0.Trace; have z2 := size_spec_NumText hr0.Id; have z3 := size_spec_NumText hr0.Start; have z4 := size_spec_NumText hr0.End; have hl := impl_SpanOk_len (s := p0) (by simpa [main_SpanOk] using h1); (try have y2 := impl_AttrText_size (hr0.Attrs.2 _ (List.getElem_mem hi2)).N); (try rw [← main_AttrText (hr0.Attrs.2 _ (List.getElem_mem hi2)).N] at y2); (try have q2 := hI2); (try simp only [ByteArray.size_append]); simp only [bsz, List.size_toArray, List.length_cons, List.length_nil]; omega) ?_
      refine idxAt hi2 ?_
      refine .inl (⟨_, _, c_spec_AttrText (p0.Attrs[x2.i]'hi2), (FzAs.same _), ?_⟩)
      refine litE (m := 3) rfl ?_
      refine andE (by have z1 := size_spec_NumText hr0.Trace; have z2 := size_spec_NumText hr0.Id; have z3 := size_spec_NumText hr0.Start; have z4 := size_spec_NumText hr0.End; have hl := impl_SpanOk_len (s := p0) (by simpa [main_SpanOk] using h1); (try have y2 := impl_AttrText_size (hr0.Attrs.2 _ (List.getElem_mem hi2)).N); (try rw [← main_AttrText (hr0.Attrs.2 _ (List.getElem_mem hi2)).N] at y2); (try have q2 := hI2); (try simp only [ByteArray.size_append]); simp only [bsz, List.size_toArray, List.length_cons, List.length_nil]; omega) ?_
      exact x2.goE hi2 hb2 (by (try have y2 := impl_AttrText_size (hr0.Attrs.2 _ (List.getElem_mem hi2)).N); (try rw [← main_AttrText (hr0.Attrs.2 _ (List.getElem_mem hi2)).N] at y2); have q2 := hI2; (try simp only [ByteArray.size_append]); simp only [bsz, List.size_toArray, List.length_cons, List.length_nil]; omega) [some 0, none] ⟨rfl, ⟨rfl, (eqInt hw2), ⟨rfl, rfl, rfl, rfl⟩, trivial⟩, ⟨⟨rfl, rfl, ⟨rfl, rfl, rfl, rfl, rfl, rfl, trivial⟩⟩, trivial⟩, trivial⟩
    have hg := finE hg (x2.fin hi2)
    refine seqE ?_
    exact leafE hown hg
theorem c_spec_SpanText (p0 : Span) : FnOk prog 21 [.agg ((Span.cells false) p0)] ⟨.one (.v (.string (spec_SpanText p0))), [], [], false⟩ :=
  FnOk.fits ⟨_, func21, by kernel_rfl, by kernel_rfl⟩ (fun hf => cr_spec_SpanText p0 (rg_Span hf.1))
theorem main_SpanText {s : Span} (h : Span.rg s) : spec_SpanText s = impl_SpanText s := by
  unfold spec_SpanText impl_SpanText spec_SpanText_j1 impl_SpanText_j1
  rw [main_SpanOk, main_NumText h.Trace, main_NumText h.Id, main_NumText h.Start, main_NumText h.End]
  have e2 : ∀ t, loopL spec_SpanText_b2 0 t s.Attrs = loopL impl_SpanText_b2 0 t s.Attrs := fun t => by
    refine loopL_congr s.Attrs 0 t fun i u a ha => ?_
    unfold spec_SpanText_b2 impl_SpanText_b2
    rw [main_AttrText (h.Attrs.2 _ ha).N, ByteArray.append_assoc]
  simp only [e2]
  rfl
def spec_ParseSpan_j4 (v11 : l27Reader) : Step (Bool) (Step (ByteArray × Int × Bool × ByteArray × Bool × Int) (Step ((List Attr) × ByteArray × Int × Bool) (Step (ByteArray × Int × Bool × (List Attr)) (Span × Bool)))) :=
  (bif (!v11.f_bad) then (bif (decide (v11.f_at < (((v11.f_s).size : Nat) : Int))) then (.next ((((v11.f_s).data.getD (v11.f_at).toNat 0).toNat : Int) == 34)) else (.next false)) else (.next false))
def spec_ParseSpan_j3 (v11 : l27Reader) : Step (ByteArray × Int × Bool × ByteArray × Bool × Int) (Step ((List Attr) × ByteArray × Int × Bool) (Step (ByteArray × Int × Bool × (List Attr)) (Span × Bool))) :=
  (Step.get (fun s4 => (bif s4 then (bindV (spec_l27Quoted v11) fun (v12 : (ByteArray × l27Reader)) => (.next (v12.2.f_s, v12.2.f_at, v12.2.f_bad, v12.1, false, 0))) else (bindV (spec_l27Num v11) fun (v13 : (Int × l27Reader)) => (.next (v13.2.f_s, v13.2.f_at, v13.2.f_bad, (ByteArray.mk #[]), true, v13.1))))) (spec_ParseSpan_j4 v11))
def spec_ParseSpan_b2 (s2 : (List Attr) × ByteArray × Int × Bool) : Step ((List Attr) × ByteArray × Int × Bool) (Step (ByteArray × Int × Bool × (List Attr)) (Span × Bool)) :=
  (bif (!s2.2.2.2) then (bindV (spec_l27Is (l27Reader.mk s2.2.1 s2.2.2.1 s2.2.2.2) (ByteArray.mk #[32])) fun (v9 : (Bool × l27Reader)) => (bif v9.1 then (bindV (spec_l27Name v9.2) fun (v10 : (ByteArray × l27Reader)) => (bindV (spec_l27Must v10.2 (ByteArray.mk #[61])) fun (v11 : l27Reader) => (Step.get (fun s3 => (.next ((s2.1 ++ [(Attr.mk v10.1 s3.2.2.2.2.1 s3.2.2.2.2.2 s3.2.2.2.1)]), s3.1, s3.2.1, s3.2.2.1))) (spec_ParseSpan_j3 v11)))) else (.stop (s2.1, v9.2.f_s, v9.2.f_at, v9.2.f_bad)))) else (.stop (s2.1, s2.2.1, s2.2.2.1, s2.2.2.2)))
def spec_ParseSpan_j1 (v8 : (Bool × l27Reader)) : Step (ByteArray × Int × Bool × (List Attr)) (Span × Bool) :=
  (Fin.get (fun s2 => (.next (s2.2.1, s2.2.2.1, s2.2.2.2, s2.1))) (loopW spec_ParseSpan_b2 (spM (([] : List Attr), v8.2.f_s, v8.2.f_at, v8.2.f_bad)) (([] : List Attr), v8.2.f_s, v8.2.f_at, v8.2.f_bad)))
def spec_ParseSpan (p0 : ByteArray) : (Span × Bool) :=
  (bindV (spec_l27Num (l27Reader.mk p0 0 false)) fun (v1 : (Int × l27Reader)) => (bindV (spec_l27Must v1.2 (ByteArray.mk #[47])) fun (v2 : l27Reader) => (bindV (spec_l27Num v2) fun (v3 : (Int × l27Reader)) => (bindV (spec_l27Must v3.2 (ByteArray.mk #[32])) fun (v4 : l27Reader) => (bindV (spec_l27Num v4) fun (v5 : (Int × l27Reader)) => (bindV (spec_l27Must v5.2 (ByteArray.mk #[45])) fun (v6 : l27Reader) => (bindV (spec_l27Num v6) fun (v7 : (Int × l27Reader)) => (bindV (spec_l27Failed v7.2) fun (v8 : (Bool × l27Reader)) => (Step.get (fun s1 => (bif s1.2.2.1 then ((Span.mk 0 0 0 0 false ([] : List Attr)), false) else (bif (decide (p0 = (ByteArray.mk #[]))) then ((Span.mk 0 0 0 0 false ([] : List Attr)), false) else (bif (!decide ((spec_SpanText (Span.mk v1.1 v3.1 v5.1 v7.1 v8.1 s1.2.2.2)) = p0)) then ((Span.mk 0 0 0 0 false ([] : List Attr)), false) else ((Span.mk v1.1 v3.1 v5.1 v7.1 v8.1 s1.2.2.2), true))))) (spec_ParseSpan_j1 v8))))))))))
theorem spj3 {v : l27Reader} {s : ByteArray × Int × Bool × ByteArray × Bool × Int} (e : spec_ParseSpan_j3 v = .next s) (h : RdOk v) : RdGe v ⟨s.1, s.2.1, s.2.2.1⟩ := by
  unfold spec_ParseSpan_j3 bindV at e
  cases hj : spec_ParseSpan_j4 v with
  | next b =>
    rw [hj] at e
    cases b with
    | true => cases e; have := ge_l27Quoted h; exact ⟨⟨this.ok.a0, this.ok.a1, this.ok.a2⟩, this.s, this.ge⟩
    | false => cases e; have := ge_l27Num h; exact ⟨⟨this.ok.a0, this.ok.a1, this.ok.a2⟩, this.s, this.ge⟩
  | _ => exfalso; unfold spec_ParseSpan_j4 at hj; revert hj; cases v.f_bad <;> cases decide (v.f_at < ((v.f_s.size : Nat) : Int)) <;> (intro hj; cases hj)
theorem c_spec_ParseSpan (p0 : ByteArray) (hs : p0.size ≤ 1048576) : FnOk prog 5 [.one (.v (.string p0))] ⟨.tup [.agg ((Span.cells true) (spec_ParseSpan p0).1), .one (.v (.bool (spec_ParseSpan p0).2))], [], [], false⟩ := by
  refine FnOk.intro (E := env) envOk wide func5 rfl (by kernel_rfl) rfl rfl ?_
  have hg := spec_ParseSpan.eq_1 p0
  have hown : ∀ g : (Span × Bool), AV.Own (AV.tup [.agg ((Span.cells true) g.1), .one (.v (.bool g.2))]) := fun g => ⟨own_Span _, .v _, trivial⟩
  refine seqE ?_
  refine litE (m := 0) rfl ?_
  refine seqE ?_
  refine litE (m := 1) rfl ?_
  refine seqE ?_
  refine litE (m := 2) rfl ?_
  refine seqE ?_
  refine .inr ⟨0, [], fun us1 hu1 => ⟨_, (.same _), _, _, _, _, _, c_spec_l27Num (l27Reader.mk p0 0 false) (by first | (first | assumption | exact hs | exact rd0 hs | exact hI2.1 | exact RdGe.ok (by assumption) | exact ⟨hs.a0, hs.a1, hs.a2⟩) | (simp only [bsz, List.size_toArray, List.length_cons, List.length_nil]; omega)), (FzAs.same _), (.same _), trivial, (Int × l27Reader), (spec_l27Num (l27Reader.mk p0 0 false)), (fun g => l27Reader.cells g.2), (fun g => .one (.v (.int .i64 g.1))), rfl, rfl, fun v1 hvv1 => ?_⟩⟩
  refine litE (m := 4) rfl ?_
  have hz2 := rdE hvv1 (ge_l27Num (by first | assumption | exact hs | exact rd0 hs | exact hI2.1 | exact RdGe.ok (by assumption) | exact ⟨hs.a0, hs.a1, hs.a2⟩))
  refine litE (m := 4) rfl ?_
  have hg := bindE hvv1 hg
  refine seqE ?_
  refine .inr ⟨0, [], fun us3 hu3 => ⟨_, (.same _), _, _, _, _, _, c_spec_l27Must v1.2 (ByteArray.mk #[47]) (by first | (first | assumption | exact hs | exact rd0 hs | exact hI2.1 | exact RdGe.ok (by assumption) | exact ⟨hs.a0, hs.a1, hs.a2⟩) | (simp only [bsz, List.size_toArray, List.length_cons, List.length_nil]; omega)) (by first | (first | assumption | exact hs | exact rd0 hs | exact hI2.1 | exact RdGe.ok (by assumption) | exact ⟨hs.a0, hs.a1, hs.a2⟩) | (simp only [bsz, List.size_toArray, List.length_cons, List.length_nil]; omega)), (FzAs.same _), (.same _), trivial, l27Reader, (spec_l27Must v1.2 (ByteArray.mk #[47])), (fun g => l27Reader.cells g), (fun g => .tup []), rfl, rfl, fun v2 hvv2 => ?_⟩⟩
  refine litE (m := 5) rfl ?_
  have hz4 := rdM hvv2 (ge_l27Must (by first | (first | assumption | exact hs | exact rd0 hs | exact hI2.1 | exact RdGe.ok (by assumption) | exact ⟨hs.a0, hs.a1, hs.a2⟩) | (have k0 := hz2.ok.a0; have k1 := hz2.ok.a2; have f8 := quo_j x1.e hz2.ok; exact ⟨by (first | omega | (dsimp only <;> omega) | (simp (disch := omega) only [wrap_small, mid_eq, mid_eq1, mid_eq2, mid_eq3, List.length_map, List.length_set] <;> omega) | (simp (disch := omega) only [wrap_small, mid_eq, mid_eq1, mid_eq2, mid_eq3, List.length_map, List.length_set] at * <;> omega)), by (first | omega | (dsimp only <;> omega) | (simp (disch := omega) only [wrap_small, mid_eq, mid_eq1, mid_eq2, mid_eq3, List.length_map, List.length_set] <;> omega) | (simp (disch := omega) only [wrap_small, mid_eq, mid_eq1, mid_eq2, mid_eq3, List.length_map, List.length_set] at * <;> omega)), by (first | omega | (dsimp only <;> omega) | (simp (disch := omega) only [wrap_small, mid_eq, mid_eq1, mid_eq2, mid_eq3, List.length_map, List.length_set] <;> omega) | (simp (disch := omega) only [wrap_small, mid_eq, mid_eq1, mid_eq2, mid_eq3, List.length_map, List.length_set] at * <;> omega))⟩)) (by first | assumption | (simp only [bsz, List.size_toArray, List.length_cons, List.length_nil]; omega)))
  refine litE (m := 5) rfl ?_
  have hg := bindE hvv2 hg
  refine seqE ?_
  refine .inr ⟨0, [], fun us5 hu5 => ⟨_, (.same _), _, _, _, _, _, c_spec_l27Num v2 (by first | (first | assumption | exact hs | exact rd0 hs | exact hI2.1 | exact RdGe.ok (by assumption) | exact ⟨hs.a0, hs.a1, hs.a2⟩) | (simp only [bsz, List.size_toArray, List.length_cons, List.length_nil]; omega)), (FzAs.same _), (.same _), trivial, (Int × l27Reader), (spec_l27Num v2), (fun g => l27Reader.cells g.2), (fun g => .one (.v (.int .i64 g.1))), rfl, rfl, fun v3 hvv3 => ?_⟩⟩
  refine litE (m := 6) rfl ?_
  have hz6 := rdE hvv3 (ge_l27Num (by first | assumption | exact hs | exact rd0 hs | exact hI2.1 | exact RdGe.ok (by assumption) | exact ⟨hs.a0, hs.a1, hs.a2⟩))
  refine litE (m := 6) rfl ?_
  have hg := bindE hvv3 hg
  refine seqE ?_
  refine .inr ⟨0, [], fun us7 hu7 => ⟨_, (.same _), _, _, _, _, _, c_spec_l27Must v3.2 (ByteArray.mk #[32]) (by first | (first | assumption | exact hs | exact rd0 hs | exact hI2.1 | exact RdGe.ok (by assumption) | exact ⟨hs.a0, hs.a1, hs.a2⟩) | (simp only [bsz, List.size_toArray, List.length_cons, List.length_nil]; omega)) (by first | (first | assumption | exact hs | exact rd0 hs | exact hI2.1 | exact RdGe.ok (by assumption) | exact ⟨hs.a0, hs.a1, hs.a2⟩) | (simp only [bsz, List.size_toArray, List.length_cons, List.length_nil]; omega)), (FzAs.same _), (.same _), trivial, l27Reader, (spec_l27Must v3.2 (ByteArray.mk #[32])), (fun g => l27Reader.cells g), (fun g => .tup []), rfl, rfl, fun v4 hvv4 => ?_⟩⟩
  refine litE (m := 7) rfl ?_
  have hz8 := rdM hvv4 (ge_l27Must (by first | (first | assumption | exact hs | exact rd0 hs | exact hI2.1 | exact RdGe.ok (by assumption) | exact ⟨hs.a0, hs.a1, hs.a2⟩) | (have k0 := hz2.ok.a0; have k1 := hz2.ok.a2; have f8 := quo_j x1.e hz2.ok; exact ⟨by (first | omega | (dsimp only <;> omega) | (simp (disch := omega) only [wrap_small, mid_eq, mid_eq1, mid_eq2, mid_eq3, List.length_map, List.length_set] <;> omega) | (simp (disch := omega) only [wrap_small, mid_eq, mid_eq1, mid_eq2, mid_eq3, List.length_map, List.length_set] at * <;> omega)), by (first | omega | (dsimp only <;> omega) | (simp (disch := omega) only [wrap_small, mid_eq, mid_eq1, mid_eq2, mid_eq3, List.length_map, List.length_set] <;> omega) | (simp (disch := omega) only [wrap_small, mid_eq, mid_eq1, mid_eq2, mid_eq3, List.length_map, List.length_set] at * <;> omega)), by (first | omega | (dsimp only <;> omega) | (simp (disch := omega) only [wrap_small, mid_eq, mid_eq1, mid_eq2, mid_eq3, List.length_map, List.length_set] <;> omega) | (simp (disch := omega) only [wrap_small, mid_eq, mid_eq1, mid_eq2, mid_eq3, List.length_map, List.length_set] at * <;> omega))⟩)) (by first | assumption | (simp only [bsz, List.size_toArray, List.length_cons, List.length_nil]; omega)))
  refine litE (m := 7) rfl ?_
  have hg := bindE hvv4 hg
  refine seqE ?_
  refine .inr ⟨0, [], fun us9 hu9 => ⟨_, (.same _), _, _, _, _, _, c_spec_l27Num v4 (by first | (first | assumption | exact hs | exact rd0 hs | exact hI2.1 | exact RdGe.ok (by assumption) | exact ⟨hs.a0, hs.a1, hs.a2⟩) | (simp only [bsz, List.size_toArray, List.length_cons, List.length_nil]; omega)), (FzAs.same _), (.same _), trivial, (Int × l27Reader), (spec_l27Num v4), (fun g => l27Reader.cells g.2), (fun g => .one (.v (.int .i64 g.1))), rfl, rfl, fun v5 hvv5 => ?_⟩⟩
  refine litE (m := 8) rfl ?_
  have hz10 := rdE hvv5 (ge_l27Num (by first | assumption | exact hs | exact rd0 hs | exact hI2.1 | exact RdGe.ok (by assumption) | exact ⟨hs.a0, hs.a1, hs.a2⟩))
  refine litE (m := 8) rfl ?_
  have hg := bindE hvv5 hg
  refine seqE ?_
  refine .inr ⟨0, [], fun us11 hu11 => ⟨_, (.same _), _, _, _, _, _, c_spec_l27Must v5.2 (ByteArray.mk #[45]) (by first | (first | assumption | exact hs | exact rd0 hs | exact hI2.1 | exact RdGe.ok (by assumption) | exact ⟨hs.a0, hs.a1, hs.a2⟩) | (simp only [bsz, List.size_toArray, List.length_cons, List.length_nil]; omega)) (by first | (first | assumption | exact hs | exact rd0 hs | exact hI2.1 | exact RdGe.ok (by assumption) | exact ⟨hs.a0, hs.a1, hs.a2⟩) | (simp only [bsz, List.size_toArray, List.length_cons, List.length_nil]; omega)), (FzAs.same _), (.same _), trivial, l27Reader, (spec_l27Must v5.2 (ByteArray.mk #[45])), (fun g => l27Reader.cells g), (fun g => .tup []), rfl, rfl, fun v6 hvv6 => ?_⟩⟩
  refine litE (m := 9) rfl ?_
  have hz12 := rdM hvv6 (ge_l27Must (by first | (first | assumption | exact hs | exact rd0 hs | exact hI2.1 | exact RdGe.ok (by assumption) | exact ⟨hs.a0, hs.a1, hs.a2⟩) | (have k0 := hz2.ok.a0; have k1 := hz2.ok.a2; have f8 := quo_j x1.e hz2.ok; exact ⟨by (first | omega | (dsimp only <;> omega) | (simp (disch := omega) only [wrap_small, mid_eq, mid_eq1, mid_eq2, mid_eq3, List.length_map, List.length_set] <;> omega) | (simp (disch := omega) only [wrap_small, mid_eq, mid_eq1, mid_eq2, mid_eq3, List.length_map, List.length_set] at * <;> omega)), by (first | omega | (dsimp only <;> omega) | (simp (disch := omega) only [wrap_small, mid_eq, mid_eq1, mid_eq2, mid_eq3, List.length_map, List.length_set] <;> omega) | (simp (disch := omega) only [wrap_small, mid_eq, mid_eq1, mid_eq2, mid_eq3, List.length_map, List.length_set] at * <;> omega)), by (first | omega | (dsimp only <;> omega) | (simp (disch := omega) only [wrap_small, mid_eq, mid_eq1, mid_eq2, mid_eq3, List.length_map, List.length_set] <;> omega) | (simp (disch := omega) only [wrap_small, mid_eq, mid_eq1, mid_eq2, mid_eq3, List.length_map, List.length_set] at * <;> omega))⟩)) (by first | assumption | (simp only [bsz, List.size_toArray, List.length_cons, List.length_nil]; omega)))
  refine litE (m := 9) rfl ?_
  have hg := bindE hvv6 hg
  refine seqE ?_
  refine .inr ⟨0, [], fun us13 hu13 => ⟨_, (.same _), _, _, _, _, _, c_spec_l27Num v6 (by first | (first | assumption | exact hs | exact rd0 hs | exact hI2.1 | exact RdGe.ok (by assumption) | exact ⟨hs.a0, hs.a1, hs.a2⟩) | (simp only [bsz, List.size_toArray, List.length_cons, List.length_nil]; omega)), (FzAs.same _), (.same _), trivial, (Int × l27Reader), (spec_l27Num v6), (fun g => l27Reader.cells g.2), (fun g => .one (.v (.int .i64 g.1))), rfl, rfl, fun v7 hvv7 => ?_⟩⟩
  refine litE (m := 10) rfl ?_
  have hz14 := rdE hvv7 (ge_l27Num (by first | assumption | exact hs | exact rd0 hs | exact hI2.1 | exact RdGe.ok (by assumption) | exact ⟨hs.a0, hs.a1, hs.a2⟩))
  refine litE (m := 10) rfl ?_
  have hg := bindE hvv7 hg
  refine seqE ?_
  refine .inr ⟨0, [], fun us15 hu15 => ⟨_, (.same _), _, _, _, _, _, c_spec_l27Failed v7.2 (by first | (first | assumption | exact hs | exact rd0 hs | exact hI2.1 | exact RdGe.ok (by assumption) | exact ⟨hs.a0, hs.a1, hs.a2⟩) | (simp only [bsz, List.size_toArray, List.length_cons, List.length_nil]; omega)), (FzAs.same _), (.same _), trivial, (Bool × l27Reader), (spec_l27Failed v7.2), (fun g => l27Reader.cells g.2), (fun g => .one (.v (.bool g.1))), rfl, rfl, fun v8 hvv8 => ?_⟩⟩
  refine litE (m := 11) rfl ?_
  have hz16 := rdE hvv8 (ge_l27Failed (by first | assumption | exact hs | exact rd0 hs | exact hI2.1 | exact RdGe.ok (by assumption) | exact ⟨hs.a0, hs.a1, hs.a2⟩))
  refine litE (m := 11) rfl ?_
  have hg := bindE hvv8 hg
  refine joinE hg [0, 2, 4, 5] (fun x1 => []) (fun x1 => [.keep 0, .new ⟨3, true, [[.v (.string x1.s.1), .v (.int .i64 x1.s.2.1), .v (.bool x1.s.2.2.1)]], 0⟩, .new ⟨6, true, [[.v (.int .i64 v1.1), .v (.int .i64 v3.1), .v (.int .i64 v5.1), .v (.int .i64 v7.1), .v (.bool v8.1), .n 11 [] 1 0 (x1.s.2.2.2).length]], 0⟩, .dead, .dead, .dead, .dead, .dead, .dead, .dead, .dead, .new ⟨4, false, List.map Attr.cells x1.s.2.2.2, 0⟩, .dead]) (fun hb1 => ?_) (fun x1 hg => ?_)
  · have hb1 := hb1.trans (spec_ParseSpan_j1.eq_1 ..)
    refine loopWE (m := spM) (s0 := (([] : List Attr), v8.2.f_s, v8.2.f_at, v8.2.f_bad)) spInv hb1 (by exact ⟨⟨RdGe.ok ‹RdGe v7.2 v8.2›|>.a0, RdGe.ok ‹RdGe v7.2 v8.2›|>.a1, RdGe.ok ‹RdGe v7.2 v8.2›|>.a2⟩, RdGe.ok ‹RdGe v7.2 v8.2›|>.a0⟩) [0, 2, 4, 5] (fun x2 => []) (fun x2 => [.keep 0, .new ⟨3, true, [[.v (.string x2.s.2.1), .v (.int .i64 x2.s.2.2.1), .v (.bool x2.s.2.2.2)]], 0⟩, .new ⟨6, true, [[.v (.int .i64 v1.1), .v (.int .i64 v3.1), .v (.int .i64 v5.1), .v (.int .i64 v7.1), .v (.bool v8.1), .n 11 [] 1 0 (x2.s.1).length]], 0⟩, .dead, .dead, .dead, .dead, .dead, .dead, .dead, .dead, .new ⟨4, false, List.map Attr.cells x2.s.1, 0⟩]) [some 0, some 1, some 2, none, none, none, none, none, none, none, none, none] ?_ (fun x2 => ?_)
    · exact ⟨rfl, ⟨rfl, ⟨rfl, rfl, rfl, rfl⟩, ⟨rfl, rfl, rfl, rfl⟩, ⟨rfl, rfl, rfl, rfl⟩, trivial⟩, ⟨⟨rfl, rfl, ⟨rfl, rfl, rfl, rfl, rfl, rfl, trivial⟩⟩, ⟨rfl, rfl, ⟨rfl, rfl, rfl, trivial⟩⟩, ⟨rfl, rfl, ⟨rfl, rfl, rfl, rfl, rfl, ⟨rfl, rfl, rfl, rfl, rfl⟩, trivial⟩⟩, ⟨rfl, rfl⟩, trivial⟩, trivial⟩
    have hI2 := x2.hI
    try dsimp only at hI2
    have hb2 := x2.bdy.trans (spec_ParseSpan_b2.eq_1 ..)
    refine seqE ?_
    refine seqE ?_
    refine brE hb2 (fun hb2 h17 => ?_) (fun hb2 h17 => ?_)
    · refine .inr ⟨0, [], fun us18 hu18 => ⟨_, (.same _), _, _, _, _, _, c_spec_l27Is (l27Reader.mk x2.s.2.1 x2.s.2.2.1 x2.s.2.2.2) (ByteArray.mk #[32]) (by first | (first | assumption | exact hs | exact rd0 hs | exact hI2.1 | exact RdGe.ok (by assumption) | exact ⟨hs.a0, hs.a1, hs.a2⟩) | (simp only [bsz, List.size_toArray, List.length_cons, List.length_nil]; omega)) (by first | (first | assumption | exact hs | exact rd0 hs | exact hI2.1 | exact RdGe.ok (by assumption) | exact ⟨hs.a0, hs.a1, hs.a2⟩) | (simp only [bsz, List.size_toArray, List.length_cons, List.length_nil]; omega)), (FzAs.same _), (.same _), trivial, (Bool × l27Reader), (spec_l27Is (l27Reader.mk x2.s.2.1 x2.s.2.2.1 x2.s.2.2.2) (ByteArray.mk #[32])), (fun g => l27Reader.cells g.2), (fun g => .one (.v (.bool g.1))), rfl, rfl, fun v9 hvv9 => ?_⟩⟩
      refine litE (m := 13) rfl ?_
      have hz19 := rdE hvv9 (ge_l27Is (by first | assumption | exact hs | exact rd0 hs | exact hI2.1 | exact RdGe.ok (by assumption) | exact ⟨hs.a0, hs.a1, hs.a2⟩) (by first | assumption | (simp only [bsz, List.size_toArray, List.length_cons, List.length_nil]; omega)))
      refine litE (m := 13) rfl ?_
      have hb2 := bindE hvv9 hb2
      refine brE hb2 (fun hb2 h20 => ?_) (fun hb2 h20 => ?_)
      · refine seqE ?_
        refine .inr ⟨0, [], fun us21 hu21 => ⟨_, (.same _), _, _, _, _, _, c_spec_l27Name v9.2 (by first | (first | assumption | exact hs | exact rd0 hs | exact hI2.1 | exact RdGe.ok (by assumption) | exact ⟨hs.a0, hs.a1, hs.a2⟩) | (simp only [bsz, List.size_toArray, List.length_cons, List.length_nil]; omega)), (FzAs.same _), (.same _), trivial, (ByteArray × l27Reader), (spec_l27Name v9.2), (fun g => l27Reader.cells g.2), (fun g => .one (.v (.string g.1))), rfl, rfl, fun v10 hvv10 => ?_⟩⟩
        refine litE (m := 14) rfl ?_
        have hz22 := rdE hvv10 (ge_l27Name (by first | assumption | exact hs | exact rd0 hs | exact hI2.1 | exact RdGe.ok (by assumption) | exact ⟨hs.a0, hs.a1, hs.a2⟩))
        refine litE (m := 14) rfl ?_
        have hb2 := bindE hvv10 hb2
        refine litE (m := 14) rfl ?_
        refine seqE ?_
        refine .inr ⟨0, [], fun us23 hu23 => ⟨_, (.same _), _, _, _, _, _, c_spec_l27Must v10.2 (ByteArray.mk #[61]) (by first | (first | assumption | exact hs | exact rd0 hs | exact hI2.1 | exact RdGe.ok (by assumption) | exact ⟨hs.a0, hs.a1, hs.a2⟩) | (simp only [bsz, List.size_toArray, List.length_cons, List.length_nil]; omega)) (by first | (first | assumption | exact hs | exact rd0 hs | exact hI2.1 | exact RdGe.ok (by assumption) | exact ⟨hs.a0, hs.a1, hs.a2⟩) | (simp only [bsz, List.size_toArray, List.length_cons, List.length_nil]; omega)), (FzAs.same _), (.same _), trivial, l27Reader, (spec_l27Must v10.2 (ByteArray.mk #[61])), (fun g => l27Reader.cells g), (fun g => .tup []), rfl, rfl, fun v11 hvv11 => ?_⟩⟩
        refine litE (m := 16) rfl ?_
        have hz24 := rdM hvv11 (ge_l27Must (by first | (first | assumption | exact hs | exact rd0 hs | exact hI2.1 | exact RdGe.ok (by assumption) | exact ⟨hs.a0, hs.a1, hs.a2⟩) | (have k0 := hz2.ok.a0; have k1 := hz2.ok.a2; have f8 := quo_j x1.e hz2.ok; exact ⟨by (first | omega | (dsimp only <;> omega) | (simp (disch := omega) only [wrap_small, mid_eq, mid_eq1, mid_eq2, mid_eq3, List.length_map, List.length_set] <;> omega) | (simp (disch := omega) only [wrap_small, mid_eq, mid_eq1, mid_eq2, mid_eq3, List.length_map, List.length_set] at * <;> omega)), by (first | omega | (dsimp only <;> omega) | (simp (disch := omega) only [wrap_small, mid_eq, mid_eq1, mid_eq2, mid_eq3, List.length_map, List.length_set] <;> omega) | (simp (disch := omega) only [wrap_small, mid_eq, mid_eq1, mid_eq2, mid_eq3, List.length_map, List.length_set] at * <;> omega)), by (first | omega | (dsimp only <;> omega) | (simp (disch := omega) only [wrap_small, mid_eq, mid_eq1, mid_eq2, mid_eq3, List.length_map, List.length_set] <;> omega) | (simp (disch := omega) only [wrap_small, mid_eq, mid_eq1, mid_eq2, mid_eq3, List.length_map, List.length_set] at * <;> omega))⟩)) (by first | assumption | (simp only [bsz, List.size_toArray, List.length_cons, List.length_nil]; omega)))
        refine litE (m := 16) rfl ?_
        have hb2 := bindE hvv11 hb2
        refine joinE hb2 [0, 2, 4, 5, 6, 38, 39] (fun x3 => []) (fun x3 => [.keep 0, .new ⟨3, true, [[.v (.string x3.s.1), .v (.int .i64 x3.s.2.1), .v (.bool x3.s.2.2.1)]], 0⟩, .keep 2, .dead, .dead, .dead, .dead, .dead, .dead, .dead, .dead, .keep 11, .dead, .dead, .new ⟨4, true, [[.v (.string v10.1), .v (.bool x3.s.2.2.2.2.1), .v (.int .i64 x3.s.2.2.2.2.2), .v (.string x3.s.2.2.2.1)]], 0⟩, .dead, .dead]) (fun hb3 => ?_) (fun x3 hb2 => ?_)
        · have hb3 := hb3.trans (spec_ParseSpan_j3.eq_1 ..)
          refine joinE hb3 [0, 2, 4, 5, 6, 38, 39] (fun x4 => [(74, .one (.v (.bool x4.s)))]) (fun x4 => [.keep 0, .keep 1, .keep 2, .dead, .dead, .dead, .dead, .dead, .dead, .dead, .dead, .keep 11, .dead, .dead, .keep 14, .dead]) (fun hb4 => ?_) (fun x4 hb3 => ?_)
          · have hb4 := hb4.trans (spec_ParseSpan_j4.eq_1 ..)
            refine .inl ⟨by kernel_rfl, ?_⟩
            refine brE hb4 (fun hb4 h25 => ?_) (fun hb4 h25 => .inl ⟨⟨_, hb4⟩, [some 0, some 1, some 2, none, none, none, none, none, none, none, none, some 11, none, none, some 14, none], ⟨rfl, ⟨rfl, rfl, ⟨rfl, rfl, rfl, rfl⟩, ⟨rfl, rfl, rfl, rfl⟩, ⟨rfl, rfl, rfl, rfl⟩, ⟨rfl, rfl, rfl, rfl⟩, ⟨rfl, rfl, rfl, rfl⟩, rfl, trivial⟩, ⟨⟨rfl, rfl, ⟨rfl, rfl, rfl, rfl, rfl, rfl, trivial⟩⟩, ⟨rfl, rfl, ⟨rfl, rfl, rfl, trivial⟩⟩, ⟨rfl, rfl, ⟨rfl, rfl, rfl, rfl, rfl, ⟨rfl, rfl, rfl, rfl, by (first | rfl | omega | (dsimp only; omega) | (simp; done) | (simp; omega) | (simp [LstSt.init, LstSt.step, LstInv.init, CntSt.init, CntSt.step, CntInv.init, WhlSt.init, WhlSt.step]; done) | (simp [LstSt.init, LstSt.step, LstInv.init, CntSt.init, CntSt.step, CntInv.init, WhlSt.init, WhlSt.step]; omega))⟩, trivial⟩⟩, ⟨rfl, rfl, rfl⟩, ⟨rfl, rfl, ⟨rfl, rfl, rfl, rfl, trivial⟩⟩, trivial⟩, trivial⟩⟩)
            refine lenS fun hN26 => ?_
            refine brD hb4 (fun hb4 h27 => ?_) (fun hb4 h27 => .inl ⟨⟨_, hb4⟩, [some 0, some 1, some 2, none, none, none, none, none, none, none, none, some 11, none, none, some 14, none], ⟨rfl, ⟨rfl, rfl, ⟨rfl, rfl, rfl, rfl⟩, ⟨rfl, rfl, rfl, rfl⟩, ⟨rfl, rfl, rfl, rfl⟩, ⟨rfl, rfl, rfl, rfl⟩, ⟨rfl, rfl, rfl, rfl⟩, rfl, trivial⟩, ⟨⟨rfl, rfl, ⟨rfl, rfl, rfl, rfl, rfl, rfl, trivial⟩⟩, ⟨rfl, rfl, ⟨rfl, rfl, rfl, trivial⟩⟩, ⟨rfl, rfl, ⟨rfl, rfl, rfl, rfl, rfl, ⟨rfl, rfl, rfl, rfl, by (first | rfl | omega | (dsimp only; omega) | (simp; done) | (simp; omega) | (simp [LstSt.init, LstSt.step, LstInv.init, CntSt.init, CntSt.step, CntInv.init, WhlSt.init, WhlSt.step]; done) | (simp [LstSt.init, LstSt.step, LstInv.init, CntSt.init, CntSt.step, CntInv.init, WhlSt.init, WhlSt.step]; omega))⟩, trivial⟩⟩, ⟨rfl, rfl, rfl⟩, ⟨rfl, rfl, ⟨rfl, rfl, rfl, rfl, trivial⟩⟩, trivial⟩, trivial⟩⟩)
            refine andE (by have q := RdGe.ok ‹RdGe v10.2 v11›; have q0 := q.a0; have q1 := q.a1; omega) ?_
            exact .inl ⟨⟨_, hb4⟩, [some 0, some 1, some 2, none, none, none, none, none, none, none, none, some 11, none, none, some 14, none], ⟨rfl, ⟨rfl, rfl, ⟨rfl, rfl, rfl, rfl⟩, ⟨rfl, rfl, rfl, rfl⟩, ⟨rfl, rfl, rfl, rfl⟩, ⟨rfl, rfl, rfl, rfl⟩, ⟨rfl, rfl, rfl, rfl⟩, rfl, trivial⟩, ⟨⟨rfl, rfl, ⟨rfl, rfl, rfl, rfl, rfl, rfl, trivial⟩⟩, ⟨rfl, rfl, ⟨rfl, rfl, rfl, trivial⟩⟩, ⟨rfl, rfl, ⟨rfl, rfl, rfl, rfl, rfl, ⟨rfl, rfl, rfl, rfl, by (first | rfl | omega | (dsimp only; omega) | (simp; done) | (simp; omega) | (simp [LstSt.init, LstSt.step, LstInv.init, CntSt.init, CntSt.step, CntInv.init, WhlSt.init, WhlSt.step]; done) | (simp [LstSt.init, LstSt.step, LstInv.init, CntSt.init, CntSt.step, CntInv.init, WhlSt.init, WhlSt.step]; omega))⟩, trivial⟩⟩, ⟨rfl, rfl, rfl⟩, ⟨rfl, rfl, ⟨rfl, rfl, rfl, rfl, trivial⟩⟩, trivial⟩, trivial⟩⟩
          refine brE hb3 (fun hb3 h28 => ?_) (fun hb3 h28 => ?_)
          · refine .inr ⟨0, [], fun us29 hu29 => ⟨_, (.same _), _, _, _, _, _, c_spec_l27Quoted v11 (by first | (first | assumption | exact hs | exact rd0 hs | exact hI2.1 | exact RdGe.ok (by assumption) | exact ⟨hs.a0, hs.a1, hs.a2⟩) | (simp only [bsz, List.size_toArray, List.length_cons, List.length_nil]; omega)), (FzAs.same _), (.same _), trivial, (ByteArray × l27Reader), (spec_l27Quoted v11), (fun g => l27Reader.cells g.2), (fun g => .one (.v (.string g.1))), rfl, rfl, fun v12 hvv12 => ?_⟩⟩
            refine litE (m := 17) rfl ?_
            have hz30 := rdE hvv12 (ge_l27Quoted (by first | assumption | exact hs | exact rd0 hs | exact hI2.1 | exact RdGe.ok (by assumption) | exact ⟨hs.a0, hs.a1, hs.a2⟩))
            refine litE (m := 17) rfl ?_
            have hb3 := bindE hvv12 hb3
            exact .inl ⟨⟨_, hb3⟩, [some 0, some 1, some 2, none, none, none, none, none, none, none, none, some 11, none, none, some 14, none, none], ⟨rfl, ⟨rfl, ⟨rfl, rfl, rfl, rfl⟩, ⟨rfl, rfl, rfl, rfl⟩, ⟨rfl, rfl, rfl, rfl⟩, ⟨rfl, rfl, rfl, rfl⟩, ⟨rfl, rfl, rfl, rfl⟩, rfl, trivial⟩, ⟨⟨rfl, rfl, ⟨rfl, rfl, rfl, rfl, rfl, rfl, trivial⟩⟩, ⟨rfl, rfl, ⟨rfl, rfl, rfl, trivial⟩⟩, ⟨rfl, rfl, ⟨rfl, rfl, rfl, rfl, rfl, ⟨rfl, rfl, rfl, rfl, by (first | rfl | omega | (dsimp only; omega) | (simp; done) | (simp; omega) | (simp [LstSt.init, LstSt.step, LstInv.init, CntSt.init, CntSt.step, CntInv.init, WhlSt.init, WhlSt.step]; done) | (simp [LstSt.init, LstSt.step, LstInv.init, CntSt.init, CntSt.step, CntInv.init, WhlSt.init, WhlSt.step]; omega))⟩, trivial⟩⟩, ⟨rfl, rfl, rfl⟩, ⟨rfl, rfl, ⟨rfl, rfl, rfl, rfl, trivial⟩⟩, trivial⟩, trivial⟩⟩
          · refine seqE ?_
            refine .inr ⟨0, [], fun us31 hu31 => ⟨_, (.same _), _, _, _, _, _, c_spec_l27Num v11 (by first | (first | assumption | exact hs | exact rd0 hs | exact hI2.1 | exact RdGe.ok (by assumption) | exact ⟨hs.a0, hs.a1, hs.a2⟩) | (simp only [bsz, List.size_toArray, List.length_cons, List.length_nil]; omega)), (FzAs.same _), (.same _), trivial, (Int × l27Reader), (spec_l27Num v11), (fun g => l27Reader.cells g.2), (fun g => .one (.v (.int .i64 g.1))), rfl, rfl, fun v13 hvv13 => ?_⟩⟩
            refine litE (m := 17) rfl ?_
            have hz32 := rdE hvv13 (ge_l27Num (by first | assumption | exact hs | exact rd0 hs | exact hI2.1 | exact RdGe.ok (by assumption) | exact ⟨hs.a0, hs.a1, hs.a2⟩))
            refine litE (m := 17) rfl ?_
            have hb3 := bindE hvv13 hb3
            exact .inl ⟨⟨_, hb3⟩, [some 0, some 1, some 2, none, none, none, none, none, none, none, none, some 11, none, none, some 14, none, none], ⟨rfl, ⟨rfl, ⟨rfl, rfl, rfl, rfl⟩, ⟨rfl, rfl, rfl, rfl⟩, ⟨rfl, rfl, rfl, rfl⟩, ⟨rfl, rfl, rfl, rfl⟩, ⟨rfl, rfl, rfl, rfl⟩, rfl, trivial⟩, ⟨⟨rfl, rfl, ⟨rfl, rfl, rfl, rfl, rfl, rfl, trivial⟩⟩, ⟨rfl, rfl, ⟨rfl, rfl, rfl, trivial⟩⟩, ⟨rfl, rfl, ⟨rfl, rfl, rfl, rfl, rfl, ⟨rfl, rfl, rfl, rfl, by (first | rfl | omega | (dsimp only; omega) | (simp; done) | (simp; omega) | (simp [LstSt.init, LstSt.step, LstInv.init, CntSt.init, CntSt.step, CntInv.init, WhlSt.init, WhlSt.step]; done) | (simp [LstSt.init, LstSt.step, LstInv.init, CntSt.init, CntSt.step, CntInv.init, WhlSt.init, WhlSt.step]; omega))⟩, trivial⟩⟩, ⟨rfl, rfl, rfl⟩, ⟨rfl, rfl, ⟨rfl, rfl, rfl, rfl, trivial⟩⟩, trivial⟩, trivial⟩⟩
        have hJ := spj3 x3.e (RdGe.ok ‹RdGe v10.2 v11›)
        refine .inl (litE (m := 17) rfl ?_)
        refine .inl ?_
        refine rowsE (Y := List.map Attr.cells (x2.s.1 ++ [(Attr.mk v10.1 x3.s.2.2.2.2.1 x3.s.2.2.2.2.2 x3.s.2.2.2.1)])) (by first | rfl | (simp [subR0, subR1, -List.map_take, -List.map_drop, -List.drop_one, take_map', drop_map', fz_Attr, fl_Attr, fzMap fz_Attr, flMap fl_Attr]; done) | (simp [subR0, subR1, -List.map_take, -List.map_drop, -List.drop_one, take_map', drop_map', fz_Attr, fl_Attr, fzMap fz_Attr, flMap fl_Attr]; rfl)) ?_
        refine appB (b := 48) (hs := by have q : x2.s.2.2.1 ≤ ((x2.s.2.1.size : Nat) : Int) := hI2.1.a1; have q1 : x2.s.2.1.size ≤ 1048576 := hI2.1.a2; have q2 : (x2.s.1.length : Int) ≤ x2.s.2.2.1 := hI2.2; refine ⟨?_, ?_⟩; (show List.length _ * 48 ≤ _); (try simp only [List.length_map, List.length_append, List.length_cons, List.length_nil, List.length_take, List.length_drop]); omega; (try simp only [List.length_map, List.length_append, List.length_cons, List.length_nil, List.length_take, List.length_drop]); omega) ?_
        refine litE (m := 18) rfl ?_
        exact x2.goE hb2 (show spInv ((x2.s.1 ++ [(Attr.mk v10.1 x3.s.2.2.2.2.1 x3.s.2.2.2.2.2 x3.s.2.2.2.1)]), x3.s.1, x3.s.2.1, x3.s.2.2.1) ∧ spM ((x2.s.1 ++ [(Attr.mk v10.1 x3.s.2.2.2.2.1 x3.s.2.2.2.2.2 x3.s.2.2.2.1)]), x3.s.1, x3.s.2.1, x3.s.2.2.1) < spM x2.s by exact sp_step hI2 ((((‹RdGe _ v9.2›).trans ‹RdGe v9.2 v10.2›).trans ‹RdGe v10.2 v11›).trans hJ) (by have g1 := gt_l27Is (t := ByteArray.mk #[32]) hI2.1 (by decide) (hvv9 ▸ (‹v9.1 = true›)); rw [← hvv9] at g1; have g2 := (((‹RdGe v9.2 v10.2›).trans ‹RdGe v10.2 v11›).trans hJ).ge; exact Int.le_trans g1 g2)) [some 0, some 1, some 2, none, none, none, none, none, none, none, none, some 18] ⟨rfl, ⟨rfl, ⟨rfl, rfl, rfl, rfl⟩, ⟨rfl, rfl, rfl, rfl⟩, ⟨rfl, rfl, rfl, rfl⟩, trivial⟩, ⟨⟨rfl, rfl, ⟨rfl, rfl, rfl, rfl, rfl, rfl, trivial⟩⟩, ⟨rfl, rfl, ⟨rfl, rfl, rfl, trivial⟩⟩, ⟨rfl, rfl, ⟨rfl, rfl, rfl, rfl, rfl, ⟨rfl, rfl, rfl, rfl, by (first | rfl | omega | (dsimp only; omega) | (simp; done) | (simp; omega) | (simp [LstSt.init, LstSt.step, LstInv.init, CntSt.init, CntSt.step, CntInv.init, WhlSt.init, WhlSt.step]; done) | (simp [LstSt.init, LstSt.step, LstInv.init, CntSt.init, CntSt.step, CntInv.init, WhlSt.init, WhlSt.step]; omega))⟩, trivial⟩⟩, ⟨rfl, rfl, rfl⟩, trivial⟩, trivial⟩
      · have hb1 := finE hb1 (x2.outS hb2)
        exact .inl ⟨⟨_, hb1⟩, [some 0, some 1, some 2, none, none, none, none, none, none, none, none, some 11, none], ⟨rfl, ⟨rfl, ⟨rfl, rfl, rfl, rfl⟩, ⟨rfl, rfl, rfl, rfl⟩, ⟨rfl, rfl, rfl, rfl⟩, trivial⟩, ⟨⟨rfl, rfl, ⟨rfl, rfl, rfl, rfl, rfl, rfl, trivial⟩⟩, ⟨rfl, rfl, ⟨rfl, rfl, rfl, trivial⟩⟩, ⟨rfl, rfl, ⟨rfl, rfl, rfl, rfl, rfl, ⟨rfl, rfl, rfl, rfl, by (first | rfl | omega | (dsimp only; omega) | (simp; done) | (simp; omega) | (simp [LstSt.init, LstSt.step, LstInv.init, CntSt.init, CntSt.step, CntInv.init, WhlSt.init, WhlSt.step]; done) | (simp [LstSt.init, LstSt.step, LstInv.init, CntSt.init, CntSt.step, CntInv.init, WhlSt.init, WhlSt.step]; omega))⟩, trivial⟩⟩, ⟨rfl, rfl, rfl⟩, trivial⟩, trivial⟩⟩
    · have hb1 := finE hb1 (x2.outS hb2)
      exact .inl ⟨⟨_, hb1⟩, [some 0, some 1, some 2, none, none, none, none, none, none, none, none, some 11, none], ⟨rfl, ⟨rfl, ⟨rfl, rfl, rfl, rfl⟩, ⟨rfl, rfl, rfl, rfl⟩, ⟨rfl, rfl, rfl, rfl⟩, trivial⟩, ⟨⟨rfl, rfl, ⟨rfl, rfl, rfl, rfl, rfl, rfl, trivial⟩⟩, ⟨rfl, rfl, ⟨rfl, rfl, rfl, trivial⟩⟩, ⟨rfl, rfl, ⟨rfl, rfl, rfl, rfl, rfl, ⟨rfl, rfl, rfl, rfl, by (first | rfl | omega | (dsimp only; omega) | (simp; done) | (simp; omega) | (simp [LstSt.init, LstSt.step, LstInv.init, CntSt.init, CntSt.step, CntInv.init, WhlSt.init, WhlSt.step]; done) | (simp [LstSt.init, LstSt.step, LstInv.init, CntSt.init, CntSt.step, CntInv.init, WhlSt.init, WhlSt.step]; omega))⟩, trivial⟩⟩, ⟨rfl, rfl, rfl⟩, trivial⟩, trivial⟩⟩
  refine seqE ?_
  refine seqE ?_
  refine brF hg (fun hg h33 => ?_) (fun hg h33 => ?_)
  · refine brDF hg (fun hg h34 => ?_) (fun hg h34 => ?_)
    · refine .inl (⟨_, _, c_spec_SpanText (Span.mk v1.1 v3.1 v5.1 v7.1 v8.1 x1.s.2.2.2), (FzAs.same _), ?_⟩)
      refine litE (m := 14) rfl ?_
      refine brE hg (fun hg h35 => ?_) (fun hg h35 => ?_)
      · refine seqE ?_
        exact leafE hown hg
      · refine seqE ?_
        exact leafE hown hg
    · refine seqE ?_
      exact leafE hown hg
  · refine seqE ?_
    exact leafE hown hg
def impl_numberAhead (p0 : ByteArray) (p1 : ByteArray) : (Int × ByteArray) :=
  (bif (!(cutS p0 p1).2.2) then ((-1), (ByteArray.mk #[])) else (bif (!(pnum (cutS p0 p1).1).2) then ((-1), (ByteArray.mk #[])) else ((pnum (cutS p0 p1).1).1, (cutS p0 p1).2.1)))
theorem c_impl_numberAhead (p0 : ByteArray) (p1 : ByteArray) (hs : p0.size ≤ 1048576) (hp : p1.size = 1) : FnOk prog 22 [.one (.v (.string p0)), .one (.v (.string p1))] ⟨.tup [.one (.v (.int .i64 (impl_numberAhead p0 p1).1)), .one (.v (.string (impl_numberAhead p0 p1).2))], [], [], false⟩ := by
  refine FnOk.intro (E := env) envOk wide func22 rfl (by kernel_rfl) rfl rfl ?_
  have hg := impl_numberAhead.eq_1 p0 p1
  have hown : ∀ g : (Int × ByteArray), AV.Own (AV.tup [.one (.v (.int .i64 g.1)), .one (.v (.string g.2))]) := fun g => ⟨.v _, .v _, trivial⟩
  refine seqE ?_
  refine seqE ?_
  refine .inl (⟨_, _, c_cut p0 p1 (by first | exact hp | (have c1 := (cutS_size p0 p1).1; omega)), (FzAs.same _), ?_⟩)
  refine litE (m := 1) rfl ?_
  refine seqE ?_
  refine .inl (⟨_, _, c_parseNum (cutS p0 p1).1 (by first | exact hp | (have c1 := (cutS_size p0 p1).1; omega)), (FzAs.same _), ?_⟩)
  refine litE (m := 2) rfl ?_
  refine seqE ?_
  refine seqE ?_
  refine brF hg (fun hg h1 => ?_) (fun hg h1 => ?_)
  · refine brE hg (fun hg h2 => ?_) (fun hg h2 => ?_)
    · refine seqE ?_
      exact leafE hown hg
    · refine seqE ?_
      exact leafE hown hg
  · refine seqE ?_
    exact leafE hown hg
theorem numberAhead_size (s t : ByteArray) : (impl_numberAhead s t).2.size ≤ s.size := by
  have h := cutS_size s t
  unfold impl_numberAhead
  exact bif_ind (P := fun z : Int × ByteArray => z.2.size ≤ s.size) (fun _ => Nat.zero_le _) (fun _ => bif_ind (P := fun z : Int × ByteArray => z.2.size ≤ s.size) (fun _ => Nat.zero_le _) (fun _ => h.2))
def stringslite_HasPrefix (p0 : ByteArray) (p1 : ByteArray) : Bool :=
  (bif (decide ((((p0).size : Nat) : Int) ≥ (((p1).size : Nat) : Int))) then (decide (((p0).extract 0 (p1).size) = p1)) else false)
theorem c_stringslite_HasPrefix (p0 : ByteArray) (p1 : ByteArray) : FnOk prog 52 [.one (.v (.string p0)), .one (.v (.string p1))] ⟨.one (.v (.bool (stringslite_HasPrefix p0 p1))), [], [], false⟩ := by
  refine FnOk.intro (E := env) envOk wide func52 rfl (by kernel_rfl) rfl rfl ?_
  have hg := stringslite_HasPrefix.eq_1 p0 p1
  have hown : ∀ g : Bool, AV.Own (AV.one (.v (.bool g))) := fun g => .v _
  refine seqE ?_
  refine seqE ?_
  refine lenS fun hN1 => ?_
  refine lenS fun hN2 => ?_
  refine brD hg (fun hg h3 => ?_) (fun hg h3 => leafE hown hg)
  refine lenS fun hN4 => ?_
  refine And.intro (by have q := ‹((p0.size : Nat) : Int) ≥ ((p1.size : Nat) : Int)›; exact ⟨by omega, by omega, by omega⟩) ?_
  exact leafE hown hg
theorem h0 {b : Bool} (h : (!b) = false) : b = true := by cases b; cases h; rfl
theorem hasPrefix_size {s t : ByteArray} (h : stringslite_HasPrefix s t = true) : t.size ≤ s.size := by
  unfold stringslite_HasPrefix at h
  by_cases hc : ((s.size : Nat) : Int) ≥ ((t.size : Nat) : Int)
  · omega
  · rw [decide_eq_false hc, cond_false] at h; cases h
def stringslite_CutPrefix (p0 : ByteArray) (p1 : ByteArray) : (ByteArray × Bool) :=
  (bif (!(stringslite_HasPrefix p0 p1)) then (p0, false) else (((p0).extract (p1).size (p0).size), true))
theorem c_stringslite_CutPrefix (p0 : ByteArray) (p1 : ByteArray) : FnOk prog 51 [.one (.v (.string p0)), .one (.v (.string p1))] ⟨.tup [.one (.v (.string (stringslite_CutPrefix p0 p1).1)), .one (.v (.bool (stringslite_CutPrefix p0 p1).2))], [], [], false⟩ := by
  refine FnOk.intro (E := env) envOk wide func51 rfl (by kernel_rfl) rfl rfl ?_
  have hg := stringslite_CutPrefix.eq_1 p0 p1
  have hown : ∀ g : (ByteArray × Bool), AV.Own (AV.tup [.one (.v (.string g.1)), .one (.v (.bool g.2))]) := fun g => ⟨.v _, .v _, trivial⟩
  refine seqE ?_
  refine seqE ?_
  refine seqE ?_
  refine .inl (⟨_, _, c_stringslite_HasPrefix p0 p1, (FzAs.same _), ?_⟩)
  refine litE (m := 1) rfl ?_
  refine brE hg (fun hg h1 => ?_) (fun hg h1 => ?_)
  · refine seqE ?_
    exact leafE hown hg
  · refine seqE ?_
    refine lenS fun hN2 => ?_
    refine And.intro (by have q := hasPrefix_size (h0 ‹(!stringslite_HasPrefix p0 p1) = false›); exact ⟨by omega, by omega, by omega⟩) ?_
    exact leafE hown hg
theorem ext_size (s : ByteArray) (i j : Nat) : (s.extract i j).size ≤ s.size := by rw [ByteArray.size_extract]; omega
theorem cutPrefix_size (s t : ByteArray) : (stringslite_CutPrefix s t).1.size ≤ s.size := by
  unfold stringslite_CutPrefix
  exact bif_ind (P := fun z : ByteArray × Bool => z.1.size ≤ s.size) (fun _ => Nat.le_refl _) (fun _ => ext_size _ _ _)
theorem size_pos {s : ByteArray} (h : ¬ s = ByteArray.mk #[]) : 1 ≤ s.size := by
  obtain ⟨⟨l⟩⟩ := s
  cases l with
  | nil => exact absurd rfl h
  | cons a l => simp [ByteArray.size]
def strings_CutPrefix (p0 : ByteArray) (p1 : ByteArray) : (ByteArray × Bool) :=
  ((stringslite_CutPrefix p0 p1).1, (stringslite_CutPrefix p0 p1).2)
theorem c_strings_CutPrefix (p0 : ByteArray) (p1 : ByteArray) : FnOk prog 25 [.one (.v (.string p0)), .one (.v (.string p1))] ⟨.tup [.one (.v (.string (strings_CutPrefix p0 p1).1)), .one (.v (.bool (strings_CutPrefix p0 p1).2))], [], [], false⟩ := by
  refine FnOk.intro (E := env) envOk wide func25 rfl (by kernel_rfl) rfl rfl ?_
  have hg := strings_CutPrefix.eq_1 p0 p1
  have hown : ∀ g : (ByteArray × Bool), AV.Own (AV.tup [.one (.v (.string g.1)), .one (.v (.bool g.2))]) := fun g => ⟨.v _, .v _, trivial⟩
  refine seqE ?_
  refine seqE ?_
  refine .inl (⟨_, _, c_stringslite_CutPrefix p0 p1, (FzAs.same _), ?_⟩)
  refine litE (m := 1) rfl ?_
  exact leafE hown hg
def strings_HasPrefix (p0 : ByteArray) (p1 : ByteArray) : Bool :=
  (stringslite_HasPrefix p0 p1)
theorem c_strings_HasPrefix (p0 : ByteArray) (p1 : ByteArray) : FnOk prog 26 [.one (.v (.string p0)), .one (.v (.string p1))] ⟨.one (.v (.bool (strings_HasPrefix p0 p1))), [], [], false⟩ := by
  refine FnOk.intro (E := env) envOk wide func26 rfl (by kernel_rfl) rfl rfl ?_
  have hg := strings_HasPrefix.eq_1 p0 p1
  have hown : ∀ g : Bool, AV.Own (AV.one (.v (.bool g))) := fun g => .v _
  refine seqE ?_
  refine seqE ?_
  refine .inl (⟨_, _, c_stringslite_HasPrefix p0 p1, (FzAs.same _), ?_⟩)
  refine litE (m := 1) rfl ?_
  exact leafE hown hg
def impl_attrAhead_j1 (p0 : ByteArray) : Step (Int) (Attr × ByteArray × Bool) :=
  (bif (decide ((indexByteS (cutS p0 (ByteArray.mk #[61])).2.1 32) < 0)) then (.next ((((cutS p0 (ByteArray.mk #[61])).2.1).size : Nat) : Int)) else (.next (indexByteS (cutS p0 (ByteArray.mk #[61])).2.1 32)))
def impl_attrAhead (p0 : ByteArray) : (Attr × ByteArray × Bool) :=
  (bif (!(cutS p0 (ByteArray.mk #[61])).2.2) then ((Attr.mk (ByteArray.mk #[]) false 0 (ByteArray.mk #[])), (ByteArray.mk #[]), false) else (bif (decide ((cutS p0 (ByteArray.mk #[61])).2.1 = (ByteArray.mk #[]))) then ((Attr.mk (ByteArray.mk #[]) false 0 (ByteArray.mk #[])), (ByteArray.mk #[]), false) else (bif (((((cutS p0 (ByteArray.mk #[61])).2.1).data.getD 0 0).toNat : Int) == 34) then ((Attr.mk (cutS p0 (ByteArray.mk #[61])).1 false 0 (cutS (((cutS p0 (ByteArray.mk #[61])).2.1).extract 1 ((cutS p0 (ByteArray.mk #[61])).2.1).size) (ByteArray.mk #[34])).1), (cutS (((cutS p0 (ByteArray.mk #[61])).2.1).extract 1 ((cutS p0 (ByteArray.mk #[61])).2.1).size) (ByteArray.mk #[34])).2.1, (cutS (((cutS p0 (ByteArray.mk #[61])).2.1).extract 1 ((cutS p0 (ByteArray.mk #[61])).2.1).size) (ByteArray.mk #[34])).2.2) else (Step.get (fun s1 => ((Attr.mk (cutS p0 (ByteArray.mk #[61])).1 true (pnum (((cutS p0 (ByteArray.mk #[61])).2.1).extract 0 (s1).toNat)).1 (ByteArray.mk #[])), (((cutS p0 (ByteArray.mk #[61])).2.1).extract (s1).toNat ((cutS p0 (ByteArray.mk #[61])).2.1).size), (pnum (((cutS p0 (ByteArray.mk #[61])).2.1).extract 0 (s1).toNat)).2)) (impl_attrAhead_j1 p0)))))
theorem aaj {s : ByteArray} {v : Int} (e : impl_attrAhead_j1 s = .next v) : 0 ≤ v ∧ v ≤ (((cutS s (ByteArray.mk #[61])).2.1.size : Nat) : Int) := by
  have h := indexByteS_le (cutS s (ByteArray.mk #[61])).2.1 32
  unfold impl_attrAhead_j1 at e
  by_cases hc : indexByteS (cutS s (ByteArray.mk #[61])).2.1 32 < 0
  · rw [decide_eq_true hc, cond_true] at e; cases e; omega
  · rw [decide_eq_false hc, cond_false] at e; cases e; omega
theorem c_impl_attrAhead (p0 : ByteArray) (hs : p0.size ≤ 1048576) : FnOk prog 27 [.one (.v (.string p0))] ⟨.tup [.agg (Attr.cells (impl_attrAhead p0).1), .one (.v (.string (impl_attrAhead p0).2.1)), .one (.v (.bool (impl_attrAhead p0).2.2))], [], [], false⟩ := by
  refine FnOk.intro (E := env) envOk wide func27 rfl (by kernel_rfl) rfl rfl ?_
  have hg := impl_attrAhead.eq_1 p0
  have hown : ∀ g : (Attr × ByteArray × Bool), AV.Own (AV.tup [.agg (Attr.cells g.1), .one (.v (.string g.2.1)), .one (.v (.bool g.2.2))]) := fun g => ⟨own_Attr _, .v _, .v _, trivial⟩
  refine seqE ?_
  refine litE (m := 0) rfl ?_
  refine seqE ?_
  refine .inl (⟨_, _, c_cut p0 (ByteArray.mk #[61]) (by first | rfl | exact hs | exact Nat.le_trans (ext_size _ _ _) (Nat.le_trans (cutS_size p0 _).2 (by omega))), (FzAs.same _), ?_⟩)
  refine litE (m := 2) rfl ?_
  refine seqE ?_
  refine seqE ?_
  refine brF hg (fun hg h1 => ?_) (fun hg h1 => ?_)
  · refine brD hg (fun hg h2 => ?_) (fun hg h2 => ?_)
    · refine seqE ?_
      exact leafE hown hg
    · refine seqE ?_
      refine seqE ?_
      refine andE (by have cz := (cutS_size p0 (ByteArray.mk #[61])).2; (try have c1 := size_pos ‹¬ (cutS p0 (ByteArray.mk #[61])).2.1 = ByteArray.mk #[]›); (try have c2 := aaj x1.e); omega) ?_
      refine brQ hg (fun hg h3 => ?_) (fun hg h3 => ?_)
      · refine seqE ?_
        refine And.intro (by have cz := (cutS_size p0 (ByteArray.mk #[61])).2; (try have c1 := size_pos ‹¬ (cutS p0 (ByteArray.mk #[61])).2.1 = ByteArray.mk #[]›); (try have c2 := aaj x1.e); exact ⟨by omega, by omega, by omega⟩) ?_
        refine .inl (⟨_, _, c_cut (((cutS p0 (ByteArray.mk #[61])).2.1).extract 1 ((cutS p0 (ByteArray.mk #[61])).2.1).size) (ByteArray.mk #[34]) (by first | rfl | exact hs | exact Nat.le_trans (ext_size _ _ _) (Nat.le_trans (cutS_size p0 _).2 (by omega))), (FzAs.same _), ?_⟩)
        refine litE (m := 3) rfl ?_
        refine seqE ?_
        exact leafE hown hg
      · refine seqE ?_
        refine .inl (⟨_, _, c_indexByte (cutS p0 (ByteArray.mk #[61])).2.1 32, (FzAs.same _), ?_⟩)
        refine litE (m := 3) rfl ?_
        refine joinE hg [2, 5, 6] (fun x1 => [(11, .one (.v (.int .i64 x1.s)))]) (fun x1 => [.keep 0, .dead, .dead]) (fun hb1 => ?_) (fun x1 hg => ?_)
        · have hb1 := hb1.trans (impl_attrAhead_j1.eq_1 ..)
          refine seqE ?_
          refine brD hb1 (fun hb1 h4 => ?_) (fun hb1 h4 => .inl ⟨⟨_, hb1⟩, [some 0, none, none], ⟨rfl, ⟨rfl, ⟨rfl, rfl, rfl, rfl⟩, rfl, rfl, trivial⟩, ⟨⟨rfl, rfl, ⟨rfl, rfl, rfl, rfl, trivial⟩⟩, trivial⟩, trivial⟩⟩)
          refine lenS fun hN5 => ?_
          exact .inl ⟨⟨_, hb1⟩, [some 0, none, none], ⟨rfl, ⟨rfl, ⟨rfl, rfl, rfl, rfl⟩, rfl, rfl, trivial⟩, ⟨⟨rfl, rfl, ⟨rfl, rfl, rfl, rfl, trivial⟩⟩, trivial⟩, trivial⟩⟩
        refine seqE ?_
        refine And.intro (by have cz := (cutS_size p0 (ByteArray.mk #[61])).2; (try have c1 := size_pos ‹¬ (cutS p0 (ByteArray.mk #[61])).2.1 = ByteArray.mk #[]›); (try have c2 := aaj x1.e); exact ⟨by omega, by omega, by omega⟩) ?_
        refine .inl (⟨_, _, c_parseNum (((cutS p0 (ByteArray.mk #[61])).2.1).extract 0 (x1.s).toNat) (by first | rfl | exact hs | exact Nat.le_trans (ext_size _ _ _) (Nat.le_trans (cutS_size p0 _).2 (by omega))), (FzAs.same _), ?_⟩)
        refine litE (m := 4) rfl ?_
        refine seqE ?_
        refine .inr (.inr (.inr (.inr (.inr (.inl ⟨(.pre 0 (.pre 1 (.pre 3 (.pre 4 (.pre 5 (.pre 6 (.seg 7 1 (.q 2 .leaf) (.tail 7)))))))), by kernel_rfl, ?_⟩)))))
        refine And.intro (by have cz := (cutS_size p0 (ByteArray.mk #[61])).2; (try have c1 := size_pos ‹¬ (cutS p0 (ByteArray.mk #[61])).2.1 = ByteArray.mk #[]›); (try have c2 := aaj x1.e); exact ⟨by omega, by omega, by omega⟩) ?_
        exact leafE hown hg
  · refine seqE ?_
    exact leafE hown hg
theorem attrAhead_size (s : ByteArray) : (impl_attrAhead s).2.1.size ≤ s.size := by
  have h := cutS_size s (ByteArray.mk #[61])
  unfold impl_attrAhead
  refine bif_ind (P := fun z : Attr × ByteArray × Bool => z.2.1.size ≤ s.size) (fun _ => Nat.zero_le _) (fun _ => bif_ind (P := fun z : Attr × ByteArray × Bool => z.2.1.size ≤ s.size) (fun _ => Nat.zero_le _) (fun _ => bif_ind (P := fun z : Attr × ByteArray × Bool => z.2.1.size ≤ s.size) (fun _ => ?_) (fun _ => ?_)))
  · exact Nat.le_trans (cutS_size _ _).2 (Nat.le_trans (ext_size _ _ _) h.2)
  · obtain ⟨v, e⟩ : ∃ v, impl_attrAhead_j1 s = .next v := by unfold impl_attrAhead_j1; cases decide (indexByteS (cutS s (ByteArray.mk #[61])).2.1 32 < 0) <;> exact ⟨_, rfl⟩
    rw [e]
    exact Nat.le_trans (ext_size _ _ _) h.2
def impl_ParseSpan_j1 (p0 : ByteArray) : Step (Int) (Span × Bool) :=
  (bif (decide ((indexByteS (impl_numberAhead (impl_numberAhead (impl_numberAhead p0 (ByteArray.mk #[47])).2 (ByteArray.mk #[32])).2 (ByteArray.mk #[45])).2 32) < 0)) then (.next ((((impl_numberAhead (impl_numberAhead (impl_numberAhead p0 (ByteArray.mk #[47])).2 (ByteArray.mk #[32])).2 (ByteArray.mk #[45])).2).size : Nat) : Int)) else (.next (indexByteS (impl_numberAhead (impl_numberAhead (impl_numberAhead p0 (ByteArray.mk #[47])).2 (ByteArray.mk #[32])).2 (ByteArray.mk #[45])).2 32)))
def impl_ParseSpan_j2 (p0 : ByteArray) (s1 : Int) : Step (Bool × ByteArray) (Span × Bool) :=
  (bif (strings_CutPrefix (((impl_numberAhead (impl_numberAhead (impl_numberAhead p0 (ByteArray.mk #[47])).2 (ByteArray.mk #[32])).2 (ByteArray.mk #[45])).2).extract (s1).toNat ((impl_numberAhead (impl_numberAhead (impl_numberAhead p0 (ByteArray.mk #[47])).2 (ByteArray.mk #[32])).2 (ByteArray.mk #[45])).2).size) (ByteArray.mk #[32, 102, 97, 105, 108, 101, 100])).2 then (bif (decide ((strings_CutPrefix (((impl_numberAhead (impl_numberAhead (impl_numberAhead p0 (ByteArray.mk #[47])).2 (ByteArray.mk #[32])).2 (ByteArray.mk #[45])).2).extract (s1).toNat ((impl_numberAhead (impl_numberAhead (impl_numberAhead p0 (ByteArray.mk #[47])).2 (ByteArray.mk #[32])).2 (ByteArray.mk #[45])).2).size) (ByteArray.mk #[32, 102, 97, 105, 108, 101, 100])).1 = (ByteArray.mk #[]))) then (.next (true, (strings_CutPrefix (((impl_numberAhead (impl_numberAhead (impl_numberAhead p0 (ByteArray.mk #[47])).2 (ByteArray.mk #[32])).2 (ByteArray.mk #[45])).2).extract (s1).toNat ((impl_numberAhead (impl_numberAhead (impl_numberAhead p0 (ByteArray.mk #[47])).2 (ByteArray.mk #[32])).2 (ByteArray.mk #[45])).2).size) (ByteArray.mk #[32, 102, 97, 105, 108, 101, 100])).1)) else (bif (((((strings_CutPrefix (((impl_numberAhead (impl_numberAhead (impl_numberAhead p0 (ByteArray.mk #[47])).2 (ByteArray.mk #[32])).2 (ByteArray.mk #[45])).2).extract (s1).toNat ((impl_numberAhead (impl_numberAhead (impl_numberAhead p0 (ByteArray.mk #[47])).2 (ByteArray.mk #[32])).2 (ByteArray.mk #[45])).2).size) (ByteArray.mk #[32, 102, 97, 105, 108, 101, 100])).1).data.getD 0 0).toNat : Int) == 32) then (.next (true, (strings_CutPrefix (((impl_numberAhead (impl_numberAhead (impl_numberAhead p0 (ByteArray.mk #[47])).2 (ByteArray.mk #[32])).2 (ByteArray.mk #[45])).2).extract (s1).toNat ((impl_numberAhead (impl_numberAhead (impl_numberAhead p0 (ByteArray.mk #[47])).2 (ByteArray.mk #[32])).2 (ByteArray.mk #[45])).2).size) (ByteArray.mk #[32, 102, 97, 105, 108, 101, 100])).1)) else (.next (false, (((impl_numberAhead (impl_numberAhead (impl_numberAhead p0 (ByteArray.mk #[47])).2 (ByteArray.mk #[32])).2 (ByteArray.mk #[45])).2).extract (s1).toNat ((impl_numberAhead (impl_numberAhead (impl_numberAhead p0 (ByteArray.mk #[47])).2 (ByteArray.mk #[32])).2 (ByteArray.mk #[45])).2).size))))) else (.next (false, (((impl_numberAhead (impl_numberAhead (impl_numberAhead p0 (ByteArray.mk #[47])).2 (ByteArray.mk #[32])).2 (ByteArray.mk #[45])).2).extract (s1).toNat ((impl_numberAhead (impl_numberAhead (impl_numberAhead p0 (ByteArray.mk #[47])).2 (ByteArray.mk #[32])).2 (ByteArray.mk #[45])).2).size))))
def impl_ParseSpan_b4 (s4 : (List Attr) × ByteArray) : Step ((List Attr) × ByteArray) (Step ((List Attr)) (Span × Bool)) :=
  (bif (strings_HasPrefix s4.2 (ByteArray.mk #[32])) then (bif (decide ((((s4.1).length : Nat) : Int) ≤ 4)) then (bif (!(impl_attrAhead ((s4.2).extract 1 (s4.2).size)).2.2) then (.done (.done ((Span.mk 0 0 0 0 false ([] : List Attr)), false))) else (.next ((s4.1 ++ [(impl_attrAhead ((s4.2).extract 1 (s4.2).size)).1]), (impl_attrAhead ((s4.2).extract 1 (s4.2).size)).2.1))) else (.stop (s4.1, s4.2))) else (.stop (s4.1, s4.2)))
def impl_ParseSpan_j3 (s2 : Bool × ByteArray) : Step ((List Attr)) (Span × Bool) :=
  (Fin.get (fun s4 => (.next s4.1)) (loopW impl_ParseSpan_b4 ((fun s : List Attr × ByteArray => s.2.size) (([] : List Attr), s2.2)) (([] : List Attr), s2.2)))
def impl_ParseSpan (p0 : ByteArray) : (Span × Bool) :=
  (Step.get (fun s1 => (Step.get (fun s2 => (Step.get (fun s3 => (bif (!(impl_SpanOk (Span.mk (impl_numberAhead p0 (ByteArray.mk #[47])).1 (impl_numberAhead (impl_numberAhead p0 (ByteArray.mk #[47])).2 (ByteArray.mk #[32])).1 (impl_numberAhead (impl_numberAhead (impl_numberAhead p0 (ByteArray.mk #[47])).2 (ByteArray.mk #[32])).2 (ByteArray.mk #[45])).1 (pnum (((impl_numberAhead (impl_numberAhead (impl_numberAhead p0 (ByteArray.mk #[47])).2 (ByteArray.mk #[32])).2 (ByteArray.mk #[45])).2).extract 0 (s1).toNat)).1 s2.1 s3))) then ((Span.mk 0 0 0 0 false ([] : List Attr)), false) else (bif (!decide ((impl_SpanText (Span.mk (impl_numberAhead p0 (ByteArray.mk #[47])).1 (impl_numberAhead (impl_numberAhead p0 (ByteArray.mk #[47])).2 (ByteArray.mk #[32])).1 (impl_numberAhead (impl_numberAhead (impl_numberAhead p0 (ByteArray.mk #[47])).2 (ByteArray.mk #[32])).2 (ByteArray.mk #[45])).1 (pnum (((impl_numberAhead (impl_numberAhead (impl_numberAhead p0 (ByteArray.mk #[47])).2 (ByteArray.mk #[32])).2 (ByteArray.mk #[45])).2).extract 0 (s1).toNat)).1 s2.1 s3)) = p0)) then ((Span.mk 0 0 0 0 false ([] : List Attr)), false) else ((Span.mk (impl_numberAhead p0 (ByteArray.mk #[47])).1 (impl_numberAhead (impl_numberAhead p0 (ByteArray.mk #[47])).2 (ByteArray.mk #[32])).1 (impl_numberAhead (impl_numberAhead (impl_numberAhead p0 (ByteArray.mk #[47])).2 (ByteArray.mk #[32])).2 (ByteArray.mk #[45])).1 (pnum (((impl_numberAhead (impl_numberAhead (impl_numberAhead p0 (ByteArray.mk #[47])).2 (ByteArray.mk #[32])).2 (ByteArray.mk #[45])).2).extract 0 (s1).toNat)).1 s2.1 s3), true)))) (impl_ParseSpan_j3 s2))) (impl_ParseSpan_j2 p0 s1))) (impl_ParseSpan_j1 p0))
theorem psj {p0 : ByteArray} {v : Int} (e : impl_ParseSpan_j1 p0 = .next v) : 0 ≤ v ∧ v ≤ (((impl_numberAhead (impl_numberAhead (impl_numberAhead p0 (ByteArray.mk #[47])).2 (ByteArray.mk #[32])).2 (ByteArray.mk #[45])).2.size : Nat) : Int) := by
  have h := indexByteS_le (impl_numberAhead (impl_numberAhead (impl_numberAhead p0 (ByteArray.mk #[47])).2 (ByteArray.mk #[32])).2 (ByteArray.mk #[45])).2 32
  unfold impl_ParseSpan_j1 at e
  by_cases hc : indexByteS (impl_numberAhead (impl_numberAhead (impl_numberAhead p0 (ByteArray.mk #[47])).2 (ByteArray.mk #[32])).2 (ByteArray.mk #[45])).2 32 < 0
  · rw [decide_eq_true hc, cond_true] at e; cases e; omega
  · rw [decide_eq_false hc, cond_false] at e; cases e; omega
theorem psj2 {p0 : ByteArray} {v : Int} {s : Bool × ByteArray} (e : impl_ParseSpan_j2 p0 v = .next s) : s.2.size ≤ (impl_numberAhead (impl_numberAhead (impl_numberAhead p0 (ByteArray.mk #[47])).2 (ByteArray.mk #[32])).2 (ByteArray.mk #[45])).2.size := by
  have h := Nat.le_trans (cutPrefix_size ((impl_numberAhead (impl_numberAhead (impl_numberAhead p0 (ByteArray.mk #[47])).2 (ByteArray.mk #[32])).2 (ByteArray.mk #[45])).2.extract v.toNat (impl_numberAhead (impl_numberAhead (impl_numberAhead p0 (ByteArray.mk #[47])).2 (ByteArray.mk #[32])).2 (ByteArray.mk #[45])).2.size) (ByteArray.mk #[32, 102, 97, 105, 108, 101, 100])) (ext_size (impl_numberAhead (impl_numberAhead (impl_numberAhead p0 (ByteArray.mk #[47])).2 (ByteArray.mk #[32])).2 (ByteArray.mk #[45])).2 v.toNat (impl_numberAhead (impl_numberAhead (impl_numberAhead p0 (ByteArray.mk #[47])).2 (ByteArray.mk #[32])).2 (ByteArray.mk #[45])).2.size)
  have h2 := ext_size (impl_numberAhead (impl_numberAhead (impl_numberAhead p0 (ByteArray.mk #[47])).2 (ByteArray.mk #[32])).2 (ByteArray.mk #[45])).2 v.toNat (impl_numberAhead (impl_numberAhead (impl_numberAhead p0 (ByteArray.mk #[47])).2 (ByteArray.mk #[32])).2 (ByteArray.mk #[45])).2.size
  have key : ∀ s, impl_ParseSpan_j2 p0 v = .next s → s.2.size ≤ (impl_numberAhead (impl_numberAhead (impl_numberAhead p0 (ByteArray.mk #[47])).2 (ByteArray.mk #[32])).2 (ByteArray.mk #[45])).2.size := by
    unfold impl_ParseSpan_j2
    exact bif_ind (P := fun z : Step (Bool × ByteArray) (Span × Bool) => ∀ s, z = .next s → s.2.size ≤ (impl_numberAhead (impl_numberAhead (impl_numberAhead p0 (ByteArray.mk #[47])).2 (ByteArray.mk #[32])).2 (ByteArray.mk #[45])).2.size) (fun _ => bif_ind (P := fun z : Step (Bool × ByteArray) (Span × Bool) => ∀ s, z = .next s → s.2.size ≤ (impl_numberAhead (impl_numberAhead (impl_numberAhead p0 (ByteArray.mk #[47])).2 (ByteArray.mk #[32])).2 (ByteArray.mk #[45])).2.size) (fun _ s e => by cases e; exact h) (fun _ => bif_ind (P := fun z : Step (Bool × ByteArray) (Span × Bool) => ∀ s, z = .next s → s.2.size ≤ (impl_numberAhead (impl_numberAhead (impl_numberAhead p0 (ByteArray.mk #[47])).2 (ByteArray.mk #[32])).2 (ByteArray.mk #[45])).2.size) (fun _ s e => by cases e; exact h) (fun _ s e => by cases e; exact h2))) (fun _ s e => by cases e; exact h2)
  exact key s e
theorem c_impl_ParseSpan (p0 : ByteArray) (hs : p0.size ≤ 1048576) : FnOk prog 6 [.one (.v (.string p0))] ⟨.tup [.agg ((Span.cells true) (impl_ParseSpan p0).1), .one (.v (.bool (impl_ParseSpan p0).2))], [], [], false⟩ := by
  refine FnOk.intro (E := env) envOk wide func6 rfl (by kernel_rfl) rfl rfl ?_
  have hg := impl_ParseSpan.eq_1 p0
  have hown : ∀ g : (Span × Bool), AV.Own (AV.tup [.agg ((Span.cells true) g.1), .one (.v (.bool g.2))]) := fun g => ⟨own_Span _, .v _, trivial⟩
  refine seqE ?_
  refine litE (m := 0) rfl ?_
  refine seqE ?_
  refine litE (m := 1) rfl ?_
  refine seqE ?_
  refine seqE ?_
  refine .inl (⟨_, _, c_impl_numberAhead p0 (ByteArray.mk #[47]) (by have n1 := numberAhead_size p0 (ByteArray.mk #[47]); have n2 := numberAhead_size (impl_numberAhead p0 (ByteArray.mk #[47])).2 (ByteArray.mk #[32]); have n3 := numberAhead_size (impl_numberAhead (impl_numberAhead p0 (ByteArray.mk #[47])).2 (ByteArray.mk #[32])).2 (ByteArray.mk #[45]); (try have n4 := psj x1.e); first | rfl | omega | exact Nat.le_trans (ext_size _ _ _) (by omega) | exact Nat.le_trans (ext_size _ _ _) hI4.2) (by have n1 := numberAhead_size p0 (ByteArray.mk #[47]); have n2 := numberAhead_size (impl_numberAhead p0 (ByteArray.mk #[47])).2 (ByteArray.mk #[32]); have n3 := numberAhead_size (impl_numberAhead (impl_numberAhead p0 (ByteArray.mk #[47])).2 (ByteArray.mk #[32])).2 (ByteArray.mk #[45]); (try have n4 := psj x1.e); first | rfl | omega | exact Nat.le_trans (ext_size _ _ _) (by omega) | exact Nat.le_trans (ext_size _ _ _) hI4.2), (FzAs.same _), ?_⟩)
  refine litE (m := 3) rfl ?_
  refine seqE ?_
  refine .inl (⟨_, _, c_impl_numberAhead (impl_numberAhead p0 (ByteArray.mk #[47])).2 (ByteArray.mk #[32]) (by have n1 := numberAhead_size p0 (ByteArray.mk #[47]); have n2 := numberAhead_size (impl_numberAhead p0 (ByteArray.mk #[47])).2 (ByteArray.mk #[32]); have n3 := numberAhead_size (impl_numberAhead (impl_numberAhead p0 (ByteArray.mk #[47])).2 (ByteArray.mk #[32])).2 (ByteArray.mk #[45]); (try have n4 := psj x1.e); first | rfl | omega | exact Nat.le_trans (ext_size _ _ _) (by omega) | exact Nat.le_trans (ext_size _ _ _) hI4.2) (by have n1 := numberAhead_size p0 (ByteArray.mk #[47]); have n2 := numberAhead_size (impl_numberAhead p0 (ByteArray.mk #[47])).2 (ByteArray.mk #[32]); have n3 := numberAhead_size (impl_numberAhead (impl_numberAhead p0 (ByteArray.mk #[47])).2 (ByteArray.mk #[32])).2 (ByteArray.mk #[45]); (try have n4 := psj x1.e); first | rfl | omega | exact Nat.le_trans (ext_size _ _ _) (by omega) | exact Nat.le_trans (ext_size _ _ _) hI4.2), (FzAs.same _), ?_⟩)
  refine litE (m := 4) rfl ?_
  refine seqE ?_
  refine .inl (⟨_, _, c_impl_numberAhead (impl_numberAhead (impl_numberAhead p0 (ByteArray.mk #[47])).2 (ByteArray.mk #[32])).2 (ByteArray.mk #[45]) (by have n1 := numberAhead_size p0 (ByteArray.mk #[47]); have n2 := numberAhead_size (impl_numberAhead p0 (ByteArray.mk #[47])).2 (ByteArray.mk #[32]); have n3 := numberAhead_size (impl_numberAhead (impl_numberAhead p0 (ByteArray.mk #[47])).2 (ByteArray.mk #[32])).2 (ByteArray.mk #[45]); (try have n4 := psj x1.e); first | rfl | omega | exact Nat.le_trans (ext_size _ _ _) (by omega) | exact Nat.le_trans (ext_size _ _ _) hI4.2) (by have n1 := numberAhead_size p0 (ByteArray.mk #[47]); have n2 := numberAhead_size (impl_numberAhead p0 (ByteArray.mk #[47])).2 (ByteArray.mk #[32]); have n3 := numberAhead_size (impl_numberAhead (impl_numberAhead p0 (ByteArray.mk #[47])).2 (ByteArray.mk #[32])).2 (ByteArray.mk #[45]); (try have n4 := psj x1.e); first | rfl | omega | exact Nat.le_trans (ext_size _ _ _) (by omega) | exact Nat.le_trans (ext_size _ _ _) hI4.2), (FzAs.same _), ?_⟩)
  refine litE (m := 5) rfl ?_
  refine seqE ?_
  refine .inl (⟨_, _, c_indexByte (impl_numberAhead (impl_numberAhead (impl_numberAhead p0 (ByteArray.mk #[47])).2 (ByteArray.mk #[32])).2 (ByteArray.mk #[45])).2 32, (FzAs.same _), ?_⟩)
  refine litE (m := 6) rfl ?_
  refine joinE hg [0, 2, 4, 5] (fun x1 => [(6, .one (.v (.int .i64 x1.s)))]) (fun x1 => [.keep 0, .keep 1, .dead, .dead, .dead, .dead]) (fun hb1 => ?_) (fun x1 hg => ?_)
  · have hb1 := hb1.trans (impl_ParseSpan_j1.eq_1 ..)
    refine seqE ?_
    refine brD hb1 (fun hb1 h1 => ?_) (fun hb1 h1 => .inl ⟨⟨_, hb1⟩, [some 0, some 1, none, none, none, none], ⟨rfl, ⟨rfl, rfl, ⟨rfl, rfl, rfl, rfl⟩, ⟨rfl, rfl, rfl, rfl⟩, rfl, trivial⟩, ⟨⟨rfl, rfl, ⟨rfl, rfl, rfl, rfl, rfl, rfl, trivial⟩⟩, ⟨rfl, rfl, ⟨rfl, rfl, rfl, rfl, rfl, rfl, trivial⟩⟩, trivial⟩, trivial⟩⟩)
    refine lenS fun hN2 => ?_
    exact .inl ⟨⟨_, hb1⟩, [some 0, some 1, none, none, none, none], ⟨rfl, ⟨rfl, rfl, ⟨rfl, rfl, rfl, rfl⟩, ⟨rfl, rfl, rfl, rfl⟩, rfl, trivial⟩, ⟨⟨rfl, rfl, ⟨rfl, rfl, rfl, rfl, rfl, rfl, trivial⟩⟩, ⟨rfl, rfl, ⟨rfl, rfl, rfl, rfl, rfl, rfl, trivial⟩⟩, trivial⟩, trivial⟩⟩
  refine seqE ?_
  refine And.intro (by have n1 := numberAhead_size p0 (ByteArray.mk #[47]); have n2 := numberAhead_size (impl_numberAhead p0 (ByteArray.mk #[47])).2 (ByteArray.mk #[32]); have n3 := numberAhead_size (impl_numberAhead (impl_numberAhead p0 (ByteArray.mk #[47])).2 (ByteArray.mk #[32])).2 (ByteArray.mk #[45]); (try have n4 := psj x1.e); first | exact ⟨by omega, by omega, by omega⟩ | (have q1 := hasPrefix_size ‹stringslite_HasPrefix x4.s.2 (ByteArray.mk #[32]) = true›; have q4 : (ByteArray.mk #[32]).size = 1 := rfl; exact ⟨by omega, by omega, by omega⟩)) ?_
  refine .inl (⟨_, _, c_parseNum (((impl_numberAhead (impl_numberAhead (impl_numberAhead p0 (ByteArray.mk #[47])).2 (ByteArray.mk #[32])).2 (ByteArray.mk #[45])).2).extract 0 (x1.s).toNat) (by have n1 := numberAhead_size p0 (ByteArray.mk #[47]); have n2 := numberAhead_size (impl_numberAhead p0 (ByteArray.mk #[47])).2 (ByteArray.mk #[32]); have n3 := numberAhead_size (impl_numberAhead (impl_numberAhead p0 (ByteArray.mk #[47])).2 (ByteArray.mk #[32])).2 (ByteArray.mk #[45]); (try have n4 := psj x1.e); first | rfl | omega | exact Nat.le_trans (ext_size _ _ _) (by omega) | exact Nat.le_trans (ext_size _ _ _) hI4.2), (FzAs.same _), ?_⟩)
  refine litE (m := 7) rfl ?_
  refine seqE ?_
  refine And.intro (by have n1 := numberAhead_size p0 (ByteArray.mk #[47]); have n2 := numberAhead_size (impl_numberAhead p0 (ByteArray.mk #[47])).2 (ByteArray.mk #[32]); have n3 := numberAhead_size (impl_numberAhead (impl_numberAhead p0 (ByteArray.mk #[47])).2 (ByteArray.mk #[32])).2 (ByteArray.mk #[45]); (try have n4 := psj x1.e); first | exact ⟨by omega, by omega, by omega⟩ | (have q1 := hasPrefix_size ‹stringslite_HasPrefix x4.s.2 (ByteArray.mk #[32]) = true›; have q4 : (ByteArray.mk #[32]).size = 1 := rfl; exact ⟨by omega, by omega, by omega⟩)) ?_
  refine joinE hg [0, 2, 4] (fun x2 => [(5, .one (.v (.string x2.s.2)))]) (fun x2 => [.keep 0, .new ⟨6, true, [[.v (.int .i64 (impl_numberAhead p0 (ByteArray.mk #[47])).1), .v (.int .i64 (impl_numberAhead (impl_numberAhead p0 (ByteArray.mk #[47])).2 (ByteArray.mk #[32])).1), .v (.int .i64 (impl_numberAhead (impl_numberAhead (impl_numberAhead p0 (ByteArray.mk #[47])).2 (ByteArray.mk #[32])).2 (ByteArray.mk #[45])).1), .v (.int .i64 (pnum (((impl_numberAhead (impl_numberAhead (impl_numberAhead p0 (ByteArray.mk #[47])).2 (ByteArray.mk #[32])).2 (ByteArray.mk #[45])).2).extract 0 (x1.s).toNat)).1), .v (.bool x2.s.1), .s true 4 (List.map Attr.cells ([] : List Attr))]], 0⟩, .dead, .dead, .dead, .dead, .dead, .dead]) (fun hb2 => ?_) (fun x2 hg => ?_)
  · have hb2 := hb2.trans (impl_ParseSpan_j2.eq_1 ..)
    refine seqE ?_
    refine .inl (⟨_, _, c_strings_CutPrefix (((impl_numberAhead (impl_numberAhead (impl_numberAhead p0 (ByteArray.mk #[47])).2 (ByteArray.mk #[32])).2 (ByteArray.mk #[45])).2).extract (x1.s).toNat ((impl_numberAhead (impl_numberAhead (impl_numberAhead p0 (ByteArray.mk #[47])).2 (ByteArray.mk #[32])).2 (ByteArray.mk #[45])).2).size) (ByteArray.mk #[32, 102, 97, 105, 108, 101, 100]), (FzAs.same _), ?_⟩)
    refine litE (m := 8) rfl ?_
    refine seqE ?_
    refine brE hb2 (fun hb2 h3 => ?_) (fun hb2 h3 => .inl ⟨⟨_, hb2⟩, [some 0, some 1, none, none, none, none, none, none], ⟨rfl, ⟨rfl, rfl, ⟨rfl, rfl, rfl, rfl⟩, ⟨rfl, rfl, rfl, rfl⟩, trivial⟩, ⟨⟨rfl, rfl, ⟨rfl, rfl, rfl, rfl, rfl, rfl, trivial⟩⟩, ⟨rfl, rfl, ⟨rfl, rfl, rfl, rfl, rfl, rfl, trivial⟩⟩, trivial⟩, trivial⟩⟩)
    refine brDF hb2 (fun hb2 h4 => ?_) (fun hb2 h4 => .inl ⟨⟨_, hb2⟩, [some 0, some 1, none, none, none, none, none, none], ⟨rfl, ⟨rfl, rfl, ⟨rfl, rfl, rfl, rfl⟩, ⟨rfl, rfl, rfl, rfl⟩, trivial⟩, ⟨⟨rfl, rfl, ⟨rfl, rfl, rfl, rfl, rfl, rfl, trivial⟩⟩, ⟨rfl, rfl, ⟨rfl, rfl, rfl, rfl, rfl, rfl, trivial⟩⟩, trivial⟩, trivial⟩⟩)
    refine andE (by have q := size_pos (by assumption : ¬ _ = ByteArray.mk #[]); omega) ?_
    exact brQ hb2 (fun hb2 h5 => .inl ⟨⟨_, hb2⟩, [some 0, some 1, none, none, none, none, none, none], ⟨rfl, ⟨rfl, rfl, ⟨rfl, rfl, rfl, rfl⟩, ⟨rfl, rfl, rfl, rfl⟩, trivial⟩, ⟨⟨rfl, rfl, ⟨rfl, rfl, rfl, rfl, rfl, rfl, trivial⟩⟩, ⟨rfl, rfl, ⟨rfl, rfl, rfl, rfl, rfl, rfl, trivial⟩⟩, trivial⟩, trivial⟩⟩) (fun hb2 h5 => .inl ⟨⟨_, hb2⟩, [some 0, some 1, none, none, none, none, none, none], ⟨rfl, ⟨rfl, rfl, ⟨rfl, rfl, rfl, rfl⟩, ⟨rfl, rfl, rfl, rfl⟩, trivial⟩, ⟨⟨rfl, rfl, ⟨rfl, rfl, rfl, rfl, rfl, rfl, trivial⟩⟩, ⟨rfl, rfl, ⟨rfl, rfl, rfl, rfl, rfl, rfl, trivial⟩⟩, trivial⟩, trivial⟩⟩)
  have hJ := psj2 x2.e
  refine joinE hg [0, 2, 4] (fun x3 => []) (fun x3 => [.keep 0, .new ⟨6, true, [[.v (.int .i64 (impl_numberAhead p0 (ByteArray.mk #[47])).1), .v (.int .i64 (impl_numberAhead (impl_numberAhead p0 (ByteArray.mk #[47])).2 (ByteArray.mk #[32])).1), .v (.int .i64 (impl_numberAhead (impl_numberAhead (impl_numberAhead p0 (ByteArray.mk #[47])).2 (ByteArray.mk #[32])).2 (ByteArray.mk #[45])).1), .v (.int .i64 (pnum (((impl_numberAhead (impl_numberAhead (impl_numberAhead p0 (ByteArray.mk #[47])).2 (ByteArray.mk #[32])).2 (ByteArray.mk #[45])).2).extract 0 (x1.s).toNat)).1), .v (.bool x2.s.1), .n 8 [] 1 0 (x3.s).length]], 0⟩, .dead, .dead, .dead, .dead, .dead, .dead, .new ⟨4, false, List.map Attr.cells x3.s, 0⟩, .dead]) (fun hb3 => ?_) (fun x3 hg => ?_)
  · have hb3 := hb3.trans (impl_ParseSpan_j3.eq_1 ..)
    refine loopWE (m := (fun s : List Attr × ByteArray => s.2.size)) (s0 := (([] : List Attr), x2.s.2)) (fun s : List Attr × ByteArray => s.1.length ≤ 5 ∧ s.2.size ≤ 1048576) hb3 (by have n1 := numberAhead_size p0 (ByteArray.mk #[47]); have n2 := numberAhead_size (impl_numberAhead p0 (ByteArray.mk #[47])).2 (ByteArray.mk #[32]); have n3 := numberAhead_size (impl_numberAhead (impl_numberAhead p0 (ByteArray.mk #[47])).2 (ByteArray.mk #[32])).2 (ByteArray.mk #[45]); (try have n4 := psj x1.e); exact ⟨Nat.zero_le _, by have q := hJ; show x2.s.2.size ≤ 1048576; omega⟩) [0, 2, 4] (fun x4 => [(5, .one (.v (.string x4.s.2)))]) (fun x4 => [.keep 0, .new ⟨6, true, [[.v (.int .i64 (impl_numberAhead p0 (ByteArray.mk #[47])).1), .v (.int .i64 (impl_numberAhead (impl_numberAhead p0 (ByteArray.mk #[47])).2 (ByteArray.mk #[32])).1), .v (.int .i64 (impl_numberAhead (impl_numberAhead (impl_numberAhead p0 (ByteArray.mk #[47])).2 (ByteArray.mk #[32])).2 (ByteArray.mk #[45])).1), .v (.int .i64 (pnum (((impl_numberAhead (impl_numberAhead (impl_numberAhead p0 (ByteArray.mk #[47])).2 (ByteArray.mk #[32])).2 (ByteArray.mk #[45])).2).extract 0 (x1.s).toNat)).1), .v (.bool x2.s.1), .n 8 [] 1 0 (x4.s.1).length]], 0⟩, .dead, .dead, .dead, .dead, .dead, .dead, .new ⟨4, false, List.map Attr.cells x4.s.1, 0⟩]) [some 0, some 1, none, none, none, none, none, none, none] ?_ (fun x4 => ?_)
    · exact ⟨rfl, ⟨rfl, rfl, ⟨rfl, rfl, rfl, rfl⟩, ⟨rfl, rfl, rfl, rfl⟩, trivial⟩, ⟨⟨rfl, rfl, ⟨rfl, rfl, rfl, rfl, rfl, rfl, trivial⟩⟩, ⟨rfl, rfl, ⟨rfl, rfl, rfl, rfl, rfl, ⟨rfl, rfl, rfl, rfl, rfl⟩, trivial⟩⟩, ⟨rfl, rfl⟩, trivial⟩, trivial⟩
    have hI4 := x4.hI
    try dsimp only at hI4
    have hb4 := x4.bdy.trans (impl_ParseSpan_b4.eq_1 ..)
    refine seqE ?_
    refine seqE ?_
    refine .inl (⟨_, _, c_strings_HasPrefix x4.s.2 (ByteArray.mk #[32]), (FzAs.same _), ?_⟩)
    refine litE (m := 10) rfl ?_
    refine brE hb4 (fun hb4 h6 => ?_) (fun hb4 h6 => ?_)
    · refine lenE (k := (x4.s.1).length) (by simp) (fun hN7 => ?_)
      refine brD hb4 (fun hb4 h8 => ?_) (fun hb4 h8 => ?_)
      · refine seqE ?_
        refine And.intro (by have n1 := numberAhead_size p0 (ByteArray.mk #[47]); have n2 := numberAhead_size (impl_numberAhead p0 (ByteArray.mk #[47])).2 (ByteArray.mk #[32]); have n3 := numberAhead_size (impl_numberAhead (impl_numberAhead p0 (ByteArray.mk #[47])).2 (ByteArray.mk #[32])).2 (ByteArray.mk #[45]); (try have n4 := psj x1.e); first | exact ⟨by omega, by omega, by omega⟩ | (have q1 := hasPrefix_size ‹stringslite_HasPrefix x4.s.2 (ByteArray.mk #[32]) = true›; have q4 : (ByteArray.mk #[32]).size = 1 := rfl; exact ⟨by omega, by omega, by omega⟩)) ?_
        refine .inl (⟨_, _, c_impl_attrAhead ((x4.s.2).extract 1 (x4.s.2).size) (by have n1 := numberAhead_size p0 (ByteArray.mk #[47]); have n2 := numberAhead_size (impl_numberAhead p0 (ByteArray.mk #[47])).2 (ByteArray.mk #[32]); have n3 := numberAhead_size (impl_numberAhead (impl_numberAhead p0 (ByteArray.mk #[47])).2 (ByteArray.mk #[32])).2 (ByteArray.mk #[45]); (try have n4 := psj x1.e); first | rfl | omega | exact Nat.le_trans (ext_size _ _ _) (by omega) | exact Nat.le_trans (ext_size _ _ _) hI4.2), (FzAs.same _), ?_⟩)
        refine litE (m := 11) rfl ?_
        refine litE (m := 11) rfl ?_
        refine seqE ?_
        refine seqE ?_
        refine brE hb4 (fun hb4 h9 => ?_) (fun hb4 h9 => ?_)
        · refine seqE ?_
          have hb3 := donE hb3 (x4.outD hb4)
          have hg := getD hg hb3
          exact leafE hown hg
        · refine seqE ?_
          refine .inl (litE (m := 12) rfl ?_)
          refine .inl ?_
          refine rowsE (Y := List.map Attr.cells (x4.s.1 ++ [(impl_attrAhead ((x4.s.2).extract 1 (x4.s.2).size)).1])) (by first | rfl | (simp [subR0, subR1, -List.map_take, -List.map_drop, -List.drop_one, take_map', drop_map', fz_Attr, fl_Attr, fzMap fz_Attr, flMap fl_Attr]; done) | (simp [subR0, subR1, -List.map_take, -List.map_drop, -List.drop_one, take_map', drop_map', fz_Attr, fl_Attr, fzMap fz_Attr, flMap fl_Attr]; rfl)) ?_
          refine appB (b := 48) (hs := by have q2 := hI4.1; refine ⟨?_, ?_⟩; (show List.length _ * 48 ≤ _); (try simp only [List.length_map, List.length_append, List.length_cons, List.length_nil, List.length_take, List.length_drop]); omega; (try simp only [List.length_map, List.length_append, List.length_cons, List.length_nil, List.length_take, List.length_drop]); omega) ?_
          refine litE (m := 13) rfl ?_
          exact x4.goE hb4 (show (fun s : List Attr × ByteArray => s.1.length ≤ 5 ∧ s.2.size ≤ 1048576) ((x4.s.1 ++ [(impl_attrAhead ((x4.s.2).extract 1 (x4.s.2).size)).1]), (impl_attrAhead ((x4.s.2).extract 1 (x4.s.2).size)).2.1) ∧ (fun s : List Attr × ByteArray => s.2.size) ((x4.s.1 ++ [(impl_attrAhead ((x4.s.2).extract 1 (x4.s.2).size)).1]), (impl_attrAhead ((x4.s.2).extract 1 (x4.s.2).size)).2.1) < (fun s : List Attr × ByteArray => s.2.size) x4.s by have q0 := hI4.2; have q1 := hasPrefix_size ‹stringslite_HasPrefix x4.s.2 (ByteArray.mk #[32]) = true›; have q2 := attrAhead_size (x4.s.2.extract 1 x4.s.2.size); have q3 : (x4.s.2.extract 1 x4.s.2.size).size = x4.s.2.size - 1 := (by rw [ByteArray.size_extract]; omega); have q4 : (ByteArray.mk #[32]).size = 1 := rfl; have q5 := ‹((x4.s.1.length : Nat) : Int) ≤ 4›; exact ⟨⟨by simp only [List.length_append, List.length_cons, List.length_nil]; omega, by show (impl_attrAhead _).2.1.size ≤ 1048576; omega⟩, by show (impl_attrAhead _).2.1.size < x4.s.2.size; omega⟩) [some 0, some 1, none, none, none, none, none, none, some 13] ⟨rfl, ⟨rfl, rfl, ⟨rfl, rfl, rfl, rfl⟩, ⟨rfl, rfl, rfl, rfl⟩, trivial⟩, ⟨⟨rfl, rfl, ⟨rfl, rfl, rfl, rfl, rfl, rfl, trivial⟩⟩, ⟨rfl, rfl, ⟨rfl, rfl, rfl, rfl, rfl, ⟨rfl, rfl, rfl, rfl, by (first | rfl | omega | (dsimp only; omega) | (simp; done) | (simp; omega) | (simp [LstSt.init, LstSt.step, LstInv.init, CntSt.init, CntSt.step, CntInv.init, WhlSt.init, WhlSt.step]; done) | (simp [LstSt.init, LstSt.step, LstInv.init, CntSt.init, CntSt.step, CntInv.init, WhlSt.init, WhlSt.step]; omega))⟩, trivial⟩⟩, ⟨rfl, rfl, rfl⟩, trivial⟩, trivial⟩
      · have hb3 := finE hb3 (x4.outS hb4)
        exact .inl ⟨⟨_, hb3⟩, [some 0, some 1, none, none, none, none, none, none, some 8, none], ⟨rfl, ⟨rfl, ⟨rfl, rfl, rfl, rfl⟩, ⟨rfl, rfl, rfl, rfl⟩, trivial⟩, ⟨⟨rfl, rfl, ⟨rfl, rfl, rfl, rfl, rfl, rfl, trivial⟩⟩, ⟨rfl, rfl, ⟨rfl, rfl, rfl, rfl, rfl, ⟨rfl, rfl, rfl, rfl, by (first | rfl | omega | (dsimp only; omega) | (simp; done) | (simp; omega) | (simp [LstSt.init, LstSt.step, LstInv.init, CntSt.init, CntSt.step, CntInv.init, WhlSt.init, WhlSt.step]; done) | (simp [LstSt.init, LstSt.step, LstInv.init, CntSt.init, CntSt.step, CntInv.init, WhlSt.init, WhlSt.step]; omega))⟩, trivial⟩⟩, ⟨rfl, rfl, rfl⟩, trivial⟩, trivial⟩⟩
    · have hb3 := finE hb3 (x4.outS hb4)
      exact .inl ⟨⟨_, hb3⟩, [some 0, some 1, none, none, none, none, none, none, some 8, none], ⟨rfl, ⟨rfl, ⟨rfl, rfl, rfl, rfl⟩, ⟨rfl, rfl, rfl, rfl⟩, trivial⟩, ⟨⟨rfl, rfl, ⟨rfl, rfl, rfl, rfl, rfl, rfl, trivial⟩⟩, ⟨rfl, rfl, ⟨rfl, rfl, rfl, rfl, rfl, ⟨rfl, rfl, rfl, rfl, by (first | rfl | omega | (dsimp only; omega) | (simp; done) | (simp; omega) | (simp [LstSt.init, LstSt.step, LstInv.init, CntSt.init, CntSt.step, CntInv.init, WhlSt.init, WhlSt.step]; done) | (simp [LstSt.init, LstSt.step, LstInv.init, CntSt.init, CntSt.step, CntInv.init, WhlSt.init, WhlSt.step]; omega))⟩, trivial⟩⟩, ⟨rfl, rfl, rfl⟩, trivial⟩, trivial⟩⟩
  refine seqE ?_
  refine seqE ?_
  refine .inl (⟨_, _, c_impl_SpanOk (Span.mk (impl_numberAhead p0 (ByteArray.mk #[47])).1 (impl_numberAhead (impl_numberAhead p0 (ByteArray.mk #[47])).2 (ByteArray.mk #[32])).1 (impl_numberAhead (impl_numberAhead (impl_numberAhead p0 (ByteArray.mk #[47])).2 (ByteArray.mk #[32])).2 (ByteArray.mk #[45])).1 (pnum (((impl_numberAhead (impl_numberAhead (impl_numberAhead p0 (ByteArray.mk #[47])).2 (ByteArray.mk #[32])).2 (ByteArray.mk #[45])).2).extract 0 (x1.s).toNat)).1 x2.s.1 x3.s), (FzAs.same _), ?_⟩)
  refine litE (m := 11) rfl ?_
  refine brF hg (fun hg h10 => ?_) (fun hg h10 => ?_)
  · refine .inl (⟨_, _, c_impl_SpanText (Span.mk (impl_numberAhead p0 (ByteArray.mk #[47])).1 (impl_numberAhead (impl_numberAhead p0 (ByteArray.mk #[47])).2 (ByteArray.mk #[32])).1 (impl_numberAhead (impl_numberAhead (impl_numberAhead p0 (ByteArray.mk #[47])).2 (ByteArray.mk #[32])).2 (ByteArray.mk #[45])).1 (pnum (((impl_numberAhead (impl_numberAhead (impl_numberAhead p0 (ByteArray.mk #[47])).2 (ByteArray.mk #[32])).2 (ByteArray.mk #[45])).2).extract 0 (x1.s).toNat)).1 x2.s.1 x3.s), (FzAs.same _), ?_⟩)
    refine litE (m := 12) rfl ?_
    refine brE hg (fun hg h11 => ?_) (fun hg h11 => ?_)
    · refine seqE ?_
      exact leafE hown hg
    · refine seqE ?_
      exact leafE hown hg
  · refine seqE ?_
    exact leafE hown hg
def laws_eqAttr (p0 : Attr) (p1 : Attr) : Bool :=
  (bif (!decide (p0.Key = p1.Key)) then false else (bif (!(p0.Num == p1.Num)) then false else (bif (p0.N != p1.N) then false else (bif (!decide (p0.Text = p1.Text)) then false else true))))
theorem c_laws_eqAttr (p0 : Attr) (p1 : Attr) : FnOk prog 56 [.agg (Attr.cells p0), .agg (Attr.cells p1)] ⟨.one (.v (.bool (laws_eqAttr p0 p1))), [], [], false⟩ := by
  refine FnOk.intro (E := env) envOk wide func56 rfl (by kernel_rfl) rfl rfl ?_
  have hg := laws_eqAttr.eq_1 p0 p1
  have hown : ∀ g : Bool, AV.Own (AV.one (.v (.bool g))) := fun g => .v _
  refine seqE ?_
  refine litE (m := 0) rfl ?_
  refine litE (m := 1) rfl ?_
  refine seqE ?_
  refine seqE ?_
  refine brE hg (fun hg h1 => ?_) (fun hg h1 => ?_)
  · refine seqE ?_
    exact leafE hown hg
  · refine seqE ?_
    refine seqE ?_
    refine brE hg (fun hg h2 => ?_) (fun hg h2 => ?_)
    · refine seqE ?_
      exact leafE hown hg
    · refine seqE ?_
      refine seqE ?_
      refine brW hg (fun hg h3 => ?_) (fun hg h3 => ?_)
      · refine seqE ?_
        exact leafE hown hg
      · refine seqE ?_
        refine seqE ?_
        refine brE hg (fun hg h4 => ?_) (fun hg h4 => ?_)
        · refine seqE ?_
          exact leafE hown hg
        · refine seqE ?_
          exact leafE hown hg
theorem rf_laws_eqAttr (x : Attr) : laws_eqAttr x x = true := by
  simp [laws_eqAttr]
def laws_eqAttrS_b1 (p1 : (List Attr)) (i1 : Nat) (s1 : Unit) (a1 : Attr) : Step (Unit) Bool :=
  (bif (!(laws_eqAttr a1 (p1[i1]?.getD default))) then (.done false) else (.next ()))
def laws_eqAttrS (p0 : (List Attr)) (p1 : (List Attr)) : Bool :=
  (bif ((((p0).length : Nat) : Int) != (((p1).length : Nat) : Int)) then false else (Fin.get (fun s1 => true) (loopL (laws_eqAttrS_b1 p1) 0 () p0)))
theorem c_laws_eqAttrS (p0 : (List Attr)) (p1 : (List Attr)) : FnOk prog 30 [.one (.s false 4 (List.map Attr.cells p0)), .one (.s false 4 (List.map Attr.cells p1))] ⟨.one (.v (.bool (laws_eqAttrS p0 p1))), [], [], false⟩ := by
  refine FnOk.intro (E := env) envOk wide func30 rfl (by kernel_rfl) rfl rfl ?_
  have hg := laws_eqAttrS.eq_1 p0 p1
  have hown : ∀ g : Bool, AV.Own (AV.one (.v (.bool g))) := fun g => .v _
  refine seqE ?_
  refine seqE ?_
  refine seqE ?_
  refine lenM fun hN1 => ?_
  refine lenM fun hN2 => ?_
  refine brW hg (fun hg h3 => ?_) (fun hg h3 => ?_)
  · refine seqE ?_
    exact leafE hown hg
  · refine seqE ?_
    refine seqE ?_
    refine loopLE hg [0, 1] (fun x1 => [(5, .one (.v (.int .i64 ((x1.i : Nat) : Int))))]) (fun x1 => []) [] ?_ (fun x1 => ?_)
    · exact ⟨rfl, ⟨rfl, rfl, rfl, trivial⟩, trivial, trivial⟩
    refine seqE ?_
    refine seqE ?_
    refine lenM fun hN4 => ?_
    refine tstL (fun hi1 => ?_) (fun hi1 => ?_)
    · have hb1 := (x1.bdy hi1).trans (laws_eqAttrS_b1.eq_1 ..)
      have hw1 := wrap_succ hi1 (by first | assumption | omega)
      refine seqE ?_
      refine seqE ?_
      refine .inl ⟨by kernel_rfl, ?_⟩
      refine idxAt hi1 ?_
      refine idxOf (l := p1) (by (first | omega | (simp (disch := omega) only [wrap_small, mid_eq, List.length_map]; omega) | (simp; done) | (simp; omega) | (simp at *; omega) | (simp at *; done) | (simp_all; done) | (simp_all; omega))) (fun hq5 => ?_)
      refine ⟨_, _, c_laws_eqAttr (p0[x1.i]'hi1) (p1[x1.i]?.getD default), (FzAs.same _), ?_⟩
      refine brE hb1 (fun hb1 h6 => ?_) (fun hb1 h6 => x1.goE hi1 hb1 [] ⟨rfl, ⟨(eqInt hw1), rfl, rfl, trivial⟩, trivial, trivial⟩)
      refine seqE ?_
      have hg := donE hg (x1.outD hi1 hb1)
      exact leafE hown hg
    have hg := finE hg (x1.fin hi1)
    refine seqE ?_
    exact leafE hown hg
theorem rf_laws_eqAttrS (x : (List Attr)) : laws_eqAttrS x x = true := eqS_ok (b := laws_eqAttrS_b1) rf_laws_eqAttr (fun _ _ _ _ => rfl) (fun _ _ => rfl) x
def laws_eqSpan (p0 : Span) (p1 : Span) : Bool :=
  (bif (p0.Trace != p1.Trace) then false else (bif (p0.Id != p1.Id) then false else (bif (p0.Start != p1.Start) then false else (bif (p0.End != p1.End) then false else (bif (!(p0.Err == p1.Err)) then false else (bif (!(laws_eqAttrS p0.Attrs p1.Attrs)) then false else true))))))
theorem c_laws_eqSpan (p0 : Span) (p1 : Span) : FnOk prog 7 [.agg ((Span.cells false) p0), .agg ((Span.cells false) p1)] ⟨.one (.v (.bool (laws_eqSpan p0 p1))), [], [], false⟩ := by
  refine FnOk.intro (E := env) envOk wide func7 rfl (by kernel_rfl) rfl rfl ?_
  have hg := laws_eqSpan.eq_1 p0 p1
  have hown : ∀ g : Bool, AV.Own (AV.one (.v (.bool g))) := fun g => .v _
  refine seqE ?_
  refine litE (m := 0) rfl ?_
  refine litE (m := 1) rfl ?_
  refine seqE ?_
  refine seqE ?_
  refine brW hg (fun hg h1 => ?_) (fun hg h1 => ?_)
  · refine seqE ?_
    exact leafE hown hg
  · refine seqE ?_
    refine seqE ?_
    refine brW hg (fun hg h2 => ?_) (fun hg h2 => ?_)
    · refine seqE ?_
      exact leafE hown hg
    · refine seqE ?_
      refine seqE ?_
      refine brW hg (fun hg h3 => ?_) (fun hg h3 => ?_)
      · refine seqE ?_
        exact leafE hown hg
      · refine seqE ?_
        refine seqE ?_
        refine brW hg (fun hg h4 => ?_) (fun hg h4 => ?_)
        · refine seqE ?_
          exact leafE hown hg
        · refine seqE ?_
          refine seqE ?_
          refine brE hg (fun hg h5 => ?_) (fun hg h5 => ?_)
          · refine seqE ?_
            exact leafE hown hg
          · refine seqE ?_
            refine seqE ?_
            refine .inl (⟨_, _, c_laws_eqAttrS p0.Attrs p1.Attrs, (FzAs.same _), ?_⟩)
            refine litE (m := 3) rfl ?_
            refine brE hg (fun hg h6 => ?_) (fun hg h6 => ?_)
            · refine seqE ?_
              exact leafE hown hg
            · refine seqE ?_
              exact leafE hown hg
theorem rf_laws_eqSpan (x : Span) : laws_eqSpan x x = true := by
  simp [laws_eqSpan, rf_laws_eqAttrS]
def laws_markAttrS_b1 (i1 : Nat) (s1 : (List Attr) × Int) (a1 : Attr) : Step ((List Attr) × Int) (Int × (List Attr)) :=
  (.next ((List.set s1.1 i1 (Attr.mk (laws_markText s1.2) ((Int.tmod (IntKind.i64.wrap (s1.2 + 1)) 3) == 0) (IntKind.i64.wrap ((IntKind.i64.wrap (s1.2 + 1)) + 1)) (laws_markText (IntKind.i64.wrap ((IntKind.i64.wrap ((IntKind.i64.wrap (s1.2 + 1)) + 1)) + 1))))), (IntKind.i64.wrap ((IntKind.i64.wrap ((IntKind.i64.wrap ((IntKind.i64.wrap (s1.2 + 1)) + 1)) + 1)) + 1))))
def laws_markAttrS (p0 : (List Attr)) (p1 : Int) : (Int × (List Attr)) :=
  (Fin.get (fun s1 => (s1.2, s1.1)) (loopL laws_markAttrS_b1 0 (p0, p1) p0))
theorem c_laws_markAttrS (p0 : (List Attr)) (p1 : Int) : FnOk prog 31 [.tup [.one (.s true 4 (List.map Attr.cells p0))], .one (.v (.int .i64 p1))] ⟨.one (.v (.int .i64 (laws_markAttrS p0 p1).1)), [.one (.s true 4 (List.map Attr.cells ((laws_markAttrS p0 p1).2)))], [], false⟩ := by
  refine FnOk.introM (E := env) envOk wide func31 rfl (by kernel_rfl) rfl ?_
  have hg := laws_markAttrS.eq_1 p0 p1
  have hown : (∀ g : (Int × (List Attr)), AV.Own (AV.one (.v (.int .i64 g.1)))) ∧ (fun g : (Int × (List Attr)) => T.s true 4 (List.map Attr.cells (g.2))) = _ := ⟨fun g => .v _, rfl⟩
  refine seqE ?_
  refine seqE ?_
  refine seqE ?_
  refine loopLI (fun _ s => (s.1).length = (p0).length) hg (by simp) [0] (fun x1 => [(1, .one (.v (.int .i64 x1.s.2))), (5, .one (.v (.int .i64 ((x1.i : Nat) : Int))))]) (fun x1 => [.dead, .new ⟨4, false, List.map Attr.cells x1.s.1, 0⟩]) [none, some 1] ?_ (fun x1 => ?_)
  · exact ⟨rfl, ⟨rfl, rfl, ⟨rfl, rfl, rfl, rfl, by (first | rfl | omega | (dsimp only; omega) | (simp; done) | (simp; omega) | (simp [LstSt.init, LstSt.step, LstInv.init, CntSt.init, CntSt.step, CntInv.init, WhlSt.init, WhlSt.step]; done) | (simp [LstSt.init, LstSt.step, LstInv.init, CntSt.init, CntSt.step, CntInv.init, WhlSt.init, WhlSt.step]; omega))⟩, trivial⟩, ⟨⟨rfl, rfl, rfl⟩, trivial⟩, ⟨⟨rfl, rfl, rfl, rfl, by (first | rfl | omega | (dsimp only; omega) | (simp; done) | (simp; omega) | (simp [LstSt.init, LstSt.step, LstInv.init, CntSt.init, CntSt.step, CntInv.init, WhlSt.init, WhlSt.step]; done) | (simp [LstSt.init, LstSt.step, LstInv.init, CntSt.init, CntSt.step, CntInv.init, WhlSt.init, WhlSt.step]; omega))⟩, trivial⟩⟩
  have hI1 : (x1.s.1).length = (p0).length := by simpa using x1.hI
  refine seqE ?_
  refine seqE ?_
  refine lenE (k := (p0).length) (by simp) (fun hN1 => ?_)
  refine tstL (fun hi1 => ?_) (fun hi1 => ?_)
  · have hb1 := (x1.bdy hi1).trans (laws_markAttrS_b1.eq_1 ..)
    have hw1 := wrap_succ hi1 (by first | assumption | omega)
    refine seqE ?_
    refine seqE ?_
    refine .inl (⟨_, _, c_laws_markText x1.s.2, (FzAs.same _), ?_⟩)
    refine litE (m := 3) rfl ?_
    refine andE (by (first | omega | (simp (disch := omega) only [wrap_small, mid_eq, List.length_map]; omega) | (simp; done) | (simp; omega) | (simp at *; omega) | (simp at *; done) | (simp_all; done) | (simp_all; omega))) ?_
    refine .inl (rowsE (Y := List.map Attr.cells (List.set x1.s.1 x1.i (Attr.mk (laws_markText x1.s.2) (x1.s.1[x1.i]?.getD default).Num (x1.s.1[x1.i]?.getD default).N (x1.s.1[x1.i]?.getD default).Text))) (by exact setMapE (by simp) (fun a ha => by first | rfl | (simp only [ha, Option.getD_some]; rfl) | (obtain ⟨_, rfl⟩ := List.getElem?_eq_some_iff.1 ha; rfl) | (simp only [Pol.cells_eq]; rfl) | (simp only [ha, Option.getD_some, Pol.cells_eq]; rfl))) ?_)
    refine seqE ?_
    refine seqE ?_
    refine andE (by (first | omega | (simp (disch := omega) only [wrap_small, mid_eq, List.length_map]; omega) | (simp; done) | (simp; omega) | (simp at *; omega) | (simp at *; done) | (simp_all; done) | (simp_all; omega))) ?_
    refine andE (by (first | omega | (simp (disch := omega) only [wrap_small, mid_eq, List.length_map]; omega) | (simp; done) | (simp; omega) | (simp at *; omega) | (simp at *; done) | (simp_all; done) | (simp_all; omega))) ?_
    refine .inl (rowsE (Y := List.map Attr.cells (List.set x1.s.1 x1.i (Attr.mk (laws_markText x1.s.2) ((Int.tmod (IntKind.i64.wrap (x1.s.2 + 1)) 3) == 0) (x1.s.1[x1.i]?.getD default).N (x1.s.1[x1.i]?.getD default).Text))) (by exact setMapS (by simp) (by first | rfl | (simp only [ha, Option.getD_some]; rfl) | (obtain ⟨_, rfl⟩ := List.getElem?_eq_some_iff.1 ha; rfl) | (simp only [Pol.cells_eq]; rfl) | (simp only [ha, Option.getD_some, Pol.cells_eq]; rfl))) ?_)
    refine seqE ?_
    refine seqE ?_
    refine andE (by (first | omega | (simp (disch := omega) only [wrap_small, mid_eq, List.length_map]; omega) | (simp; done) | (simp; omega) | (simp at *; omega) | (simp at *; done) | (simp_all; done) | (simp_all; omega))) ?_
    refine .inl (rowsE (Y := List.map Attr.cells (List.set x1.s.1 x1.i (Attr.mk (laws_markText x1.s.2) ((Int.tmod (IntKind.i64.wrap (x1.s.2 + 1)) 3) == 0) (IntKind.i64.wrap ((IntKind.i64.wrap (x1.s.2 + 1)) + 1)) (x1.s.1[x1.i]?.getD default).Text))) (by exact setMapS (by simp) (by first | rfl | (simp only [ha, Option.getD_some]; rfl) | (obtain ⟨_, rfl⟩ := List.getElem?_eq_some_iff.1 ha; rfl) | (simp only [Pol.cells_eq]; rfl) | (simp only [ha, Option.getD_some, Pol.cells_eq]; rfl))) ?_)
    refine seqE ?_
    refine seqE ?_
    refine .inl (⟨_, _, c_laws_markText (IntKind.i64.wrap ((IntKind.i64.wrap ((IntKind.i64.wrap (x1.s.2 + 1)) + 1)) + 1)), (FzAs.same _), ?_⟩)
    refine litE (m := 4) rfl ?_
    refine andE (by (first | omega | (simp (disch := omega) only [wrap_small, mid_eq, List.length_map]; omega) | (simp; done) | (simp; omega) | (simp at *; omega) | (simp at *; done) | (simp_all; done) | (simp_all; omega))) ?_
    refine .inl (rowsE (Y := List.map Attr.cells (List.set x1.s.1 x1.i (Attr.mk (laws_markText x1.s.2) ((Int.tmod (IntKind.i64.wrap (x1.s.2 + 1)) 3) == 0) (IntKind.i64.wrap ((IntKind.i64.wrap (x1.s.2 + 1)) + 1)) (laws_markText (IntKind.i64.wrap ((IntKind.i64.wrap ((IntKind.i64.wrap (x1.s.2 + 1)) + 1)) + 1)))))) (by exact setMapS (by simp) (by first | rfl | (simp only [ha, Option.getD_some]; rfl) | (obtain ⟨_, rfl⟩ := List.getElem?_eq_some_iff.1 ha; rfl) | (simp only [Pol.cells_eq]; rfl) | (simp only [ha, Option.getD_some, Pol.cells_eq]; rfl))) ?_)
    exact x1.goE hi1 hb1 (by simpa using x1.hI) [none, some 1] ⟨rfl, ⟨rfl, (eqInt hw1), ⟨rfl, rfl, rfl, rfl, by (first | rfl | omega | (dsimp only; omega) | (simp; done) | (simp; omega) | (simp [LstSt.init, LstSt.step, LstInv.init, CntSt.init, CntSt.step, CntInv.init, WhlSt.init, WhlSt.step]; done) | (simp [LstSt.init, LstSt.step, LstInv.init, CntSt.init, CntSt.step, CntInv.init, WhlSt.init, WhlSt.step]; omega))⟩, trivial⟩, ⟨⟨rfl, rfl, rfl⟩, trivial⟩, ⟨⟨rfl, rfl, rfl, rfl, by (first | rfl | omega | (dsimp only; omega) | (simp; done) | (simp; omega) | (simp [LstSt.init, LstSt.step, LstInv.init, CntSt.init, CntSt.step, CntInv.init, WhlSt.init, WhlSt.step]; done) | (simp [LstSt.init, LstSt.step, LstInv.init, CntSt.init, CntSt.step, CntInv.init, WhlSt.init, WhlSt.step]; omega))⟩, trivial⟩⟩
  have hg := finE hg (x1.fin hi1)
  refine seqE ?_
  exact leafM hown hg
def laws_markSpan (p0 : Span) (p1 : Int) : (Int × Span) :=
  ((laws_markAttrS p0.Attrs p1).1, (Span.mk p0.Trace p0.Id p0.Start p0.End p0.Err (laws_markAttrS p0.Attrs p1).2))
theorem c_laws_markSpan (p0 : Span) (p1 : Int) : FnOk prog 8 [.tup [.agg ((Span.cells true) p0)], .one (.v (.int .i64 p1))] ⟨.one (.v (.int .i64 (laws_markSpan p0 p1).1)), [.agg ((Span.cells true) (laws_markSpan p0 p1).2)], [], false⟩ := by
  refine FnOk.introG (E := env) envOk wide func8 rfl (by kernel_rfl) rfl ?_
  have hg := laws_markSpan.eq_1 p0 p1
  have hown : (∀ g : (Int × Span), AV.Own (AV.one (.v (.int .i64 g.1)))) ∧ (fun g : (Int × Span) => ((Span.cells true) g.2)) = _ := ⟨fun g => .v _, rfl⟩
  refine seqE ?_
  refine litE (m := 2) rfl ?_
  refine seqE ?_
  refine .inr ⟨0, _, _, _, c_laws_markAttrS p0.Attrs p1, (FzAs.same _), .inl ?_⟩
  refine litE (m := 4) rfl ?_
  refine seqE ?_
  exact leafG hown hg
def laws_heldAttrS_b1 (i1 : Nat) (s1 : Int) (a1 : Attr) : Step (Int) Int :=
  (bif (!decide (a1.Key = (laws_markText s1))) then (.done (-1)) else (bif (!(a1.Num == ((Int.tmod (IntKind.i64.wrap (s1 + 1)) 3) == 0))) then (.done (-1)) else (bif (a1.N != (IntKind.i64.wrap ((IntKind.i64.wrap (s1 + 1)) + 1))) then (.done (-1)) else (bif (!decide (a1.Text = (laws_markText (IntKind.i64.wrap ((IntKind.i64.wrap ((IntKind.i64.wrap (s1 + 1)) + 1)) + 1))))) then (.done (-1)) else (.next (IntKind.i64.wrap ((IntKind.i64.wrap ((IntKind.i64.wrap ((IntKind.i64.wrap (s1 + 1)) + 1)) + 1)) + 1)))))))
def laws_heldAttrS (p0 : (List Attr)) (p1 : Int) : Int :=
  (Fin.get (fun s1 => s1) (loopL laws_heldAttrS_b1 0 p1 p0))
theorem c_laws_heldAttrS (p0 : (List Attr)) (p1 : Int) : FnOk prog 32 [.one (.s false 4 (List.map Attr.cells p0)), .one (.v (.int .i64 p1))] ⟨.one (.v (.int .i64 (laws_heldAttrS p0 p1))), [], [], false⟩ := by
  refine FnOk.intro (E := env) envOk wide func32 rfl (by kernel_rfl) rfl rfl ?_
  have hg := laws_heldAttrS.eq_1 p0 p1
  have hown : ∀ g : Int, AV.Own (AV.one (.v (.int .i64 g))) := fun g => .v _
  refine seqE ?_
  refine seqE ?_
  refine seqE ?_
  refine loopLE hg [0] (fun x1 => [(1, .one (.v (.int .i64 x1.s))), (5, .one (.v (.int .i64 ((x1.i : Nat) : Int))))]) (fun x1 => []) [] ?_ (fun x1 => ?_)
  · exact ⟨rfl, ⟨rfl, rfl, rfl, trivial⟩, trivial, trivial⟩
  refine seqE ?_
  refine seqE ?_
  refine lenM fun hN1 => ?_
  refine tstL (fun hi1 => ?_) (fun hi1 => ?_)
  · have hb1 := (x1.bdy hi1).trans (laws_heldAttrS_b1.eq_1 ..)
    have hw1 := wrap_succ hi1 (by first | assumption | omega)
    refine seqE ?_
    refine seqE ?_
    refine seqE ?_
    refine .inl ⟨by kernel_rfl, ?_⟩
    refine idxAt hi1 ?_
    refine ⟨_, _, c_laws_markText x1.s, (FzAs.same _), ?_⟩
    refine brE hb1 (fun hb1 h2 => ?_) (fun hb1 h2 => ?_)
    · refine seqE ?_
      have hg := donE hg (x1.outD hi1 hb1)
      exact leafE hown hg
    · refine seqE ?_
      refine seqE ?_
      refine seqE ?_
      refine idxAt hi1 ?_
      refine andE (by (first | omega | (simp (disch := omega) only [wrap_small, mid_eq, List.length_map]; omega) | (simp; done) | (simp; omega) | (simp at *; omega) | (simp at *; done) | (simp_all; done) | (simp_all; omega))) ?_
      refine brE hb1 (fun hb1 h3 => ?_) (fun hb1 h3 => ?_)
      · refine seqE ?_
        have hg := donE hg (x1.outD hi1 hb1)
        exact leafE hown hg
      · refine seqE ?_
        refine seqE ?_
        refine seqE ?_
        refine idxAt hi1 ?_
        refine brW hb1 (fun hb1 h4 => ?_) (fun hb1 h4 => ?_)
        · refine seqE ?_
          have hg := donE hg (x1.outD hi1 hb1)
          exact leafE hown hg
        · refine seqE ?_
          refine seqE ?_
          refine seqE ?_
          refine .inl ⟨by kernel_rfl, ?_⟩
          refine idxAt hi1 ?_
          refine ⟨_, _, c_laws_markText (IntKind.i64.wrap ((IntKind.i64.wrap ((IntKind.i64.wrap (x1.s + 1)) + 1)) + 1)), (FzAs.same _), ?_⟩
          refine brE hb1 (fun hb1 h5 => ?_) (fun hb1 h5 => x1.goE hi1 hb1 [] ⟨rfl, ⟨rfl, (eqInt hw1), rfl, trivial⟩, trivial, trivial⟩)
          refine seqE ?_
          have hg := donE hg (x1.outD hi1 hb1)
          exact leafE hown hg
  have hg := finE hg (x1.fin hi1)
  refine seqE ?_
  exact leafE hown hg
def laws_heldSpan (p0 : Span) (p1 : Int) : Int :=
  (bif (decide ((laws_heldAttrS p0.Attrs p1) < 0)) then (-1) else (laws_heldAttrS p0.Attrs p1))
theorem c_laws_heldSpan (p0 : Span) (p1 : Int) : FnOk prog 9 [.agg ((Span.cells false) p0), .one (.v (.int .i64 p1))] ⟨.one (.v (.int .i64 (laws_heldSpan p0 p1))), [], [], false⟩ := by
  refine FnOk.intro (E := env) envOk wide func9 rfl (by kernel_rfl) rfl rfl ?_
  have hg := laws_heldSpan.eq_1 p0 p1
  have hown : ∀ g : Int, AV.Own (AV.one (.v (.int .i64 g))) := fun g => .v _
  refine seqE ?_
  refine litE (m := 0) rfl ?_
  refine seqE ?_
  refine .inl (⟨_, _, c_laws_heldAttrS p0.Attrs p1, (FzAs.same _), ?_⟩)
  refine litE (m := 2) rfl ?_
  refine seqE ?_
  refine seqE ?_
  refine brD hg (fun hg h1 => ?_) (fun hg h1 => ?_)
  · refine seqE ?_
    exact leafE hown hg
  · refine seqE ?_
    exact leafE hown hg
def laws_FnExactParseSpan (p0 : ByteArray) : Bool :=
  (bif (decide ((((p0).size : Nat) : Int) > 1048576)) then true else (bif (!(laws_eqSpan (impl_ParseSpan p0).1 (spec_ParseSpan p0).1)) then false else (bif (!((impl_ParseSpan p0).2 == (spec_ParseSpan p0).2)) then false else (bif (decide ((laws_heldSpan (Span.mk (impl_ParseSpan p0).1.Trace (impl_ParseSpan p0).1.Id (impl_ParseSpan p0).1.Start (impl_ParseSpan p0).1.End (impl_ParseSpan p0).1.Err (laws_markSpan (impl_ParseSpan p0).1 1).2.Attrs) 1) < 0)) then false else (bif ((laws_heldSpan (Span.mk (impl_ParseSpan p0).1.Trace (impl_ParseSpan p0).1.Id (impl_ParseSpan p0).1.Start (impl_ParseSpan p0).1.End (impl_ParseSpan p0).1.Err (laws_markSpan (impl_ParseSpan p0).1 1).2.Attrs) 1) != (laws_markSpan (impl_ParseSpan p0).1 1).1) then false else (bif (!(laws_eqSpan (impl_ParseSpan p0).1 (spec_ParseSpan p0).1)) then false else (bif (!((impl_ParseSpan p0).2 == (spec_ParseSpan p0).2)) then false else (bif (decide ((laws_heldSpan (Span.mk (impl_ParseSpan p0).1.Trace (impl_ParseSpan p0).1.Id (impl_ParseSpan p0).1.Start (impl_ParseSpan p0).1.End (impl_ParseSpan p0).1.Err (laws_markSpan (impl_ParseSpan p0).1 1).2.Attrs) 1) < 0)) then false else (bif ((laws_heldSpan (Span.mk (impl_ParseSpan p0).1.Trace (impl_ParseSpan p0).1.Id (impl_ParseSpan p0).1.Start (impl_ParseSpan p0).1.End (impl_ParseSpan p0).1.Err (laws_markSpan (impl_ParseSpan p0).1 1).2.Attrs) 1) != (laws_markSpan (impl_ParseSpan p0).1 1).1) then false else true)))))))))
theorem c_laws_FnExactParseSpan (p0 : ByteArray) (hw0 : (p0).size ≤ 9223372036854775807) : FnOk prog 3 [.one (.v (.string p0))] ⟨.one (.v (.bool (laws_FnExactParseSpan p0))), [], [], false⟩ := by
  refine FnOk.intro (E := env) envOk wide func3 rfl (by kernel_rfl) rfl rfl ?_
  have hg := laws_FnExactParseSpan.eq_1 p0
  have hown : ∀ g : Bool, AV.Own (AV.one (.v (.bool g))) := fun g => .v _
  refine seqE ?_
  refine seqE ?_
  refine seqE ?_
  refine lenS fun hN1 => ?_
  refine brD hg (fun hg h2 => ?_) (fun hg h2 => ?_)
  · refine seqE ?_
    exact leafE hown hg
  · refine seqE ?_
    refine .inl (⟨_, _, c_spec_ParseSpan p0 (by first | assumption | (have q := ‹¬ ((p0.size : Nat) : Int) > 1048576›; omega)), (FzAs.same _), ?_⟩)
    refine litE (m := 1) rfl ?_
    refine litE (m := 2) rfl ?_
    refine seqE ?_
    refine .inl (⟨_, _, c_impl_ParseSpan p0 (by first | assumption | (have q := ‹¬ ((p0.size : Nat) : Int) > 1048576›; omega)), (FzAs.same _), ?_⟩)
    refine litE (m := 4) rfl ?_
    refine litE (m := 5) rfl ?_
    refine seqE ?_
    refine seqE ?_
    refine .inl (⟨_, _, c_laws_eqSpan (impl_ParseSpan p0).1 (spec_ParseSpan p0).1, (FzAs.same _), ?_⟩)
    refine litE (m := 7) rfl ?_
    refine brF hg (fun hg h3 => ?_) (fun hg h3 => ?_)
    · refine brE hg (fun hg h4 => ?_) (fun hg h4 => ?_)
      · refine seqE ?_
        exact leafE hown hg
      · refine seqE ?_
        refine seqE ?_
        refine .inr ⟨0, _, _, _, c_laws_markSpan (impl_ParseSpan p0).1 1, (FzAs.same _), ?_⟩
        refine litE (m := 8) rfl ?_
        refine seqE ?_
        refine seqE ?_
        refine .inl (⟨_, _, c_laws_heldSpan (Span.mk (impl_ParseSpan p0).1.Trace (impl_ParseSpan p0).1.Id (impl_ParseSpan p0).1.Start (impl_ParseSpan p0).1.End (impl_ParseSpan p0).1.Err (laws_markSpan (impl_ParseSpan p0).1 1).2.Attrs) 1, (FzAs.same _), ?_⟩)
        refine litE (m := 9) rfl ?_
        refine seqE ?_
        refine seqE ?_
        refine brD hg (fun hg h5 => ?_) (fun hg h5 => ?_)
        · refine seqE ?_
          exact leafE hown hg
        · refine seqE ?_
          refine seqE ?_
          refine brW hg (fun hg h6 => ?_) (fun hg h6 => ?_)
          · refine seqE ?_
            exact leafE hown hg
          · refine seqE ?_
            refine .inl (⟨_, _, c_impl_ParseSpan p0 (by first | assumption | (have q := ‹¬ ((p0.size : Nat) : Int) > 1048576›; omega)), (FzAs.same _), ?_⟩)
            refine litE (m := 10) rfl ?_
            refine litE (m := 11) rfl ?_
            refine seqE ?_
            refine seqE ?_
            refine .inl (⟨_, _, c_laws_eqSpan (impl_ParseSpan p0).1 (spec_ParseSpan p0).1, (FzAs.same _), ?_⟩)
            refine litE (m := 13) rfl ?_
            refine brF hg (fun hg h7 => ?_) (fun hg h7 => ?_)
            · refine brE hg (fun hg h8 => ?_) (fun hg h8 => ?_)
              · refine seqE ?_
                exact leafE hown hg
              · refine seqE ?_
                refine seqE ?_
                refine .inl (⟨_, _, c_laws_heldSpan (Span.mk (impl_ParseSpan p0).1.Trace (impl_ParseSpan p0).1.Id (impl_ParseSpan p0).1.Start (impl_ParseSpan p0).1.End (impl_ParseSpan p0).1.Err (laws_markSpan (impl_ParseSpan p0).1 1).2.Attrs) 1, (FzAs.same _), ?_⟩)
                refine litE (m := 14) rfl ?_
                refine seqE ?_
                refine seqE ?_
                refine brD hg (fun hg h9 => ?_) (fun hg h9 => ?_)
                · refine seqE ?_
                  exact leafE hown hg
                · refine seqE ?_
                  refine seqE ?_
                  refine brW hg (fun hg h10 => ?_) (fun hg h10 => ?_)
                  · refine seqE ?_
                    exact leafE hown hg
                  · refine seqE ?_
                    exact leafE hown hg
            · refine seqE ?_
              exact leafE hown hg
    · refine seqE ?_
      exact leafE hown hg
/-- Texts as lists of bytes. -/
def oL (l : List UInt8) : ByteArray := ⟨l.toArray⟩
theorem L_oL (l : List UInt8) : (oL l).data.toList = l := rfl
theorem oL_L (s : ByteArray) : oL s.data.toList = s := rfl
theorem oL_size (l : List UInt8) : (oL l).size = l.length := by show l.toArray.size = _; rw [List.size_toArray]
theorem L_len (s : ByteArray) : s.data.toList.length = s.size := by rw [Array.length_toList]; rfl
theorem L_app (a b : ByteArray) : (a ++ b).data.toList = a.data.toList ++ b.data.toList := by rw [ByteArray.data_append, Array.toList_append]
theorem oL_app (a b : List UInt8) : oL a ++ oL b = oL (a ++ b) := by
  apply ByteArray.ext
  rw [ByteArray.data_append]
  simp [oL]
theorem oL_ext (l : List UInt8) (i j : Nat) : (oL l).extract i j = oL ((l.take j).drop i) := by
  apply ByteArray.ext
  rw [ByteArray.data_extract]
  simp [oL, List.drop_take]
theorem oL_inj {a b : List UInt8} : oL a = oL b ↔ a = b := ⟨fun h => by have := congrArg (fun s : ByteArray => s.data.toList) h; exact this, fun h => by rw [h]⟩
theorem oL_get (l : List UInt8) (i : Nat) : (oL l).data.getD i 0 = l.getD i 0 := by
  show l.toArray.getD i 0 = _
  simp [Array.getD_eq_getD_getElem?, List.getD_eq_getElem?_getD]
/-- Digits. -/
def valD (acc : Nat) (l : List UInt8) : Nat := l.foldl (fun a c => a * 10 + (c.toNat - 48)) acc
theorem dg_nat {k : Nat} (h : k < 10) : (UInt8.ofNat (48 + k)).toNat = 48 + k := by
  rw [UInt8.toNat_ofNat']; omega
theorem dec_dig (n : Nat) : ∀ c ∈ Lib.decDigits n, 48 ≤ c.toNat ∧ c.toNat ≤ 57 := by
  induction n using Nat.strongRecOn with
  | _ n ih =>
    intro c hc
    rw [Lib.decDigits] at hc
    by_cases h : n < 10
    · rw [dif_pos h] at hc
      obtain rfl := List.mem_singleton.1 hc
      rw [dg_nat h]; omega
    · rw [dif_neg h] at hc
      rcases List.mem_append.1 hc with hc | hc
      · exact ih (n / 10) (by omega) c hc
      · obtain rfl := List.mem_singleton.1 hc
        rw [dg_nat (Nat.mod_lt _ (by omega))]; omega
theorem dec_val (n : Nat) : valD 0 (Lib.decDigits n) = n := by
  induction n using Nat.strongRecOn with
  | _ n ih =>
    rw [Lib.decDigits]
    by_cases h : n < 10
    · rw [dif_pos h]
      show 0 * 10 + ((UInt8.ofNat (48 + n)).toNat - 48) = n
      rw [dg_nat h]; omega
    · rw [dif_neg h]
      unfold valD
      rw [List.foldl_append]
      have := ih (n / 10) (by omega)
      unfold valD at this
      rw [this]
      show n / 10 * 10 + ((UInt8.ofNat (48 + n % 10)).toNat - 48) = n
      rw [dg_nat (Nat.mod_lt _ (by omega))]; omega
theorem dec_head (n : Nat) (h : 1 ≤ n) : ∀ c r, Lib.decDigits n = c :: r → c.toNat ≠ 48 := by
  induction n using Nat.strongRecOn with
  | _ n ih =>
    intro c r e
    rw [Lib.decDigits] at e
    by_cases hn : n < 10
    · rw [dif_pos hn] at e
      cases e
      rw [dg_nat hn]; omega
    · rw [dif_neg hn] at e
      cases hd : Lib.decDigits (n / 10) with
      | nil =>
        have := Lib.decDigits_length (n / 10)
        rw [hd] at this
        rw [Lib.decDigits] at hd
        split at hd <;> simp at hd
      | cons c' r' =>
        rw [hd] at e
        cases e
        exact ih (n / 10) (by omega) (by omega) _ _ hd
theorem dec_ne (n : Nat) : Lib.decDigits n ≠ [] := by
  rw [Lib.decDigits]
  split
  · simp
  · simp
theorem valD_le (l : List UInt8) : ∀ acc, acc ≤ valD acc l := by
  induction l with
  | nil => intro acc; exact Nat.le_refl _
  | cons c l ih => intro acc; exact Nat.le_trans (by omega) (ih (acc * 10 + (c.toNat - 48)))
theorem parse_val : ∀ (l : List UInt8) (acc : Nat), (∀ c ∈ l, 48 ≤ c.toNat ∧ c.toNat ≤ 57) → valD acc l ≤ 2147483647 → Lib.parseUint10 acc l = .ok (valD acc l)
  | [], acc, _, _ => rfl
  | c :: l, acc, h, hv => by
    have h1 := h c (by simp)
    have h2 : acc * 10 + (c.toNat - 48) ≤ valD acc (c :: l) := valD_le l _
    unfold Lib.parseUint10
    rw [if_pos h1, if_neg (by omega), if_neg (by omega)]
    exact parse_val l _ (fun c hc => h c (by simp [hc])) hv
theorem itoaS_oL {n : Int} (h : 0 ≤ n) : itoaS n = oL (Lib.decDigits n.toNat) := by
  unfold itoaS Lib.itoa
  rw [if_neg (by omega)]
  rfl
theorem pnum_dec {n : Int} (h0 : 0 ≤ n) (h1 : n ≤ 2147483647) : pnum (oL (Lib.decDigits n.toNat)) = (n, true) := by
  refine pnum_ok (v := n) ?_ (itoaS_oL h0) h0 h1
  rw [L_oL]
  have hd := dec_dig n.toNat
  have hv := parse_val (Lib.decDigits n.toNat) 0 hd (by rw [dec_val]; omega)
  rw [dec_val] at hv
  cases he : Lib.decDigits n.toNat with
  | nil => exact absurd he (dec_ne _)
  | cons c r =>
    rw [he] at hv hd
    have hc := hd c (by simp)
    rw [Lib.atoiAll_plain c r (by omega) (by omega)]
    unfold Lib.parseMag
    rw [if_neg (by simp), hv]
    unfold Lib.signless
    simp only
    rw [if_neg (by omega)]
    congr 1; omega
end Go.Proofs.Tryd.Ev
