import Derived.Test.YtbfbnamkgcanbaaDoorLTabsD
import Derived.Test.YtbfbnamkgcanbaaDoorLItoa
import Derived.Test.YtbfbnamkgcanbaaDoorEvY
set_option linter.unusedSectionVars false
namespace Go.Proofs.Tryd.Ev
open Go Go.Ev Go.Proofs
set_option maxHeartbeats 4000000
set_option maxRecDepth 100000
set_option linter.unusedSimpArgs false
set_option linter.unusedVariables false
structure Count where
  Came : Int
  Went : Int
  Moving : Int
  Held : Int
  Dropped : Int
deriving DecidableEq, Inhabited
def Count.cells (x : Count) : List T := [.v (.int .i64 x.Came), .v (.int .i64 x.Went), .v (.int .i64 x.Moving), .v (.int .i64 x.Held), .v (.int .i64 x.Dropped)]
theorem own_Count (x : Count) : OwnL (Count.cells x) := ⟨.v _, .v _, .v _, .v _, .v _, trivial⟩
theorem frz_Count (x : Count) : frzL (Count.cells x) = Count.cells x := rfl
theorem fz_Count (x : Count) : (Count.cells x).map T.fz = Count.cells x := rfl
theorem fl_Count (x : Count) : (Count.cells x).map T.flat = Count.cells x := rfl
def Count.rg (x : Count) : Prop := I64 x.Came ∧ I64 x.Went ∧ I64 x.Moving ∧ I64 x.Held ∧ I64 x.Dropped ∧ True
theorem rg_Count {x : Count} (h : fitL (Count.cells x)) : Count.rg x := ⟨(range_of_fit h.1), (range_of_fit h.2.1), (range_of_fit h.2.2.1), (range_of_fit h.2.2.2.1), (range_of_fit h.2.2.2.2.1), trivial⟩
theorem Count.rg.Came {x : Count} (h : Count.rg x) : I64 x.Came := h.1
theorem Count.rg.Went {x : Count} (h : Count.rg x) : I64 x.Went := h.2.1
theorem Count.rg.Moving {x : Count} (h : Count.rg x) : I64 x.Moving := h.2.2.1
theorem Count.rg.Held {x : Count} (h : Count.rg x) : I64 x.Held := h.2.2.2.1
theorem Count.rg.Dropped {x : Count} (h : Count.rg x) : I64 x.Dropped := h.2.2.2.2.1
def ntInv (s : ByteArray × Int) : Prop := (s.1.size = 0 ∧ s.2.natAbs ≤ 9223372036854775808) ∨ s.1.size + s.2.natAbs ≤ 4611686018427387904
def ntM (s : ByteArray × Int) : Nat := s.2.natAbs
theorem size_str1 (c : Int) : (strOfNums [c]).size = 1 := rfl
theorem nt_abs {x : Int} (h : x.natAbs ≤ 9223372036854775808) : (IntKind.i64.wrap (x.tdiv 10)).natAbs = x.natAbs / 10 := by
  have e : (x.tdiv 10).natAbs = x.natAbs / 10 := by rw [Int.natAbs_tdiv]; rfl
  generalize x.tdiv 10 = q at e ⊢
  have hq : q.natAbs ≤ 922337203685477580 := by omega
  have hq1 : -9223372036854775808 ≤ q := by clear e; omega
  have hq2 : q ≤ 9223372036854775807 := by clear e; omega
  rw [Go.Ev.wrap_small hq1 hq2, e]
theorem nt_step {s : ByteArray} {x c : Int} (h : ntInv (s, x)) (hx : x ≠ 0) : ntInv (strOfNums [c] ++ s, IntKind.i64.wrap (x.tdiv 10)) ∧ ntM (strOfNums [c] ++ s, IntKind.i64.wrap (x.tdiv 10)) < ntM (s, x) := by
  unfold ntInv ntM at *
  simp only at h ⊢
  rw [nt_abs (by omega), ByteArray.size_append, size_str1]
  omega
theorem nt_cat {s : ByteArray} {x c : Int} (h : ntInv (s, x)) (hx : (x != 0) = true) : (((strOfNums [c]).size + s.size : Nat) : Int) ≤ 9223372036854775807 := by
  unfold ntInv at h
  simp only [bne_iff_ne] at h hx
  rw [size_str1]
  omega
theorem nt_cat2 {s : ByteArray} {x : Int} {b : UInt8} (h : ntInv (s, x)) : (((ByteArray.mk #[b]).size + s.size : Nat) : Int) ≤ 9223372036854775807 := by
  unfold ntInv at h
  simp only at h
  have : (ByteArray.mk #[b]).size = 1 := rfl
  omega
def laws_toCount (p0 : Count) : Count :=
  p0
theorem c_laws_toCount (p0 : Count) : FnOk prog 6 [.agg (Count.cells p0)] ⟨.agg (Count.cells (laws_toCount p0)), [], [], false⟩ := by
  refine FnOk.intro (E := env) envOk wide func6 rfl (by kernel_rfl) rfl rfl ?_
  refine litE (m := 0) rfl ?_
  refine litE (m := 1) rfl ?_
  refine litE (m := 2) rfl ?_
  refine And.intro (fun _ => own_Count _) ?_
  have hg : laws_toCount p0 = p0 := by
    first | rfl | (simp only [laws_toCount, cond_true, cond_false, Step.fin_stop, Step.fin_done, Fin.get_fin, Fin.get_done, Step.fin_next, Bool.not_true, Bool.not_false, Option.getD_some]) | (simp [laws_toCount, cond_true, cond_false, Step.fin_stop, Step.fin_done, Fin.get_fin, Fin.get_done, Step.fin_next, Bool.not_true, Bool.not_false, Option.getD_some])
  exact congrArg (fun g : Count => AV.agg (Count.cells g)) hg.symm
theorem id_laws_toCount (x : Count) : laws_toCount x = x := by
  first | rfl | (simp only [laws_toCount]; done) | (simp only [laws_toCount]; rfl)
def spec_NumText_b1 (s1 : ByteArray × Int) : Step (ByteArray × Int) ByteArray :=
  (bif (s1.2 != 0) then (bif (decide ((Int.tmod s1.2 10) < 0)) then (.next (((strOfNums [(IntKind.u8.wrap (IntKind.i64.wrap (48 + (IntKind.i64.wrap (0 - (Int.tmod s1.2 10))))))]) ++ s1.1), (IntKind.i64.wrap (Int.tdiv s1.2 10)))) else (.next (((strOfNums [(IntKind.u8.wrap (IntKind.i64.wrap (48 + (Int.tmod s1.2 10))))]) ++ s1.1), (IntKind.i64.wrap (Int.tdiv s1.2 10))))) else (.stop (s1.1, s1.2)))
def spec_NumText (p0 : Int) : ByteArray :=
  (bif (p0 == 0) then (ByteArray.mk #[48]) else (Fin.get (fun s1 => (bif (decide (p0 < 0)) then ((ByteArray.mk #[45]) ++ s1.1) else s1.1)) (loopW spec_NumText_b1 (ntM ((ByteArray.mk #[]), p0)) ((ByteArray.mk #[]), p0))))
theorem cr_spec_NumText (p0 : Int) (hr0 : I64 p0) : FnOk prog 13 [.one (.v (.int .i64 p0))] ⟨.one (.v (.string (spec_NumText p0))), [], [], false⟩ := by
  refine FnOk.intro (E := env) envOk wide func13 rfl (by kernel_rfl) rfl rfl ?_
  refine And.intro (fun (h1 : (p0 == 0) = true) => ?_) (fun (h1 : (p0 == 0) = false) => ?_)
  · refine And.intro (fun _ => .v _) ?_
    have hg : spec_NumText p0 = (ByteArray.mk #[48]) := by
      first | rfl | (simp only [spec_NumText, h1, cond_true, cond_false, Step.fin_stop, Step.fin_done, Fin.get_fin, Fin.get_done, Step.fin_next, Bool.not_true, Bool.not_false, Option.getD_some]) | (simp [spec_NumText, h1, cond_true, cond_false, Step.fin_stop, Step.fin_done, Fin.get_fin, Fin.get_done, Step.fin_next, Bool.not_true, Bool.not_false, Option.getD_some])
    exact congrArg (fun g : ByteArray => AV.one (.v (.string g))) hg.symm
  · refine loop_rule (α := WhlSt ntInv ntM spec_NumText_b1 ((ByteArray.mk #[]), p0)) [0] (fun x1 => [(3, .one (.v (.string x1.s.1))), (4, .one (.v (.int .i64 x1.s.2)))]) (fun x1 => []) (fun x1 => ntM x1.s) (WhlSt.init (by left; have := hr0.1; have := hr0.2; exact ⟨rfl, by show Int.natAbs p0 ≤ _; omega⟩)) [] ?_ (fun x1 => ?_)
    · exact ⟨rfl, ⟨rfl, rfl, rfl, trivial⟩, trivial, trivial⟩
    · refine And.intro (fun (h2 : (x1.s.2 != 0) = true) => ?_) (fun (h2 : (x1.s.2 != 0) = false) => ?_)
      · refine And.intro (fun _ => by (first | omega | (simp; done) | (simp; omega) | (simp at *; omega) | (simp at *; done) | (simp_all; done) | (simp_all; omega))) ?_
        refine And.intro (fun (h3 : (decide ((Int.tmod x1.s.2 10) < 0)) = true) => ?_) (fun (h3 : (decide ((Int.tmod x1.s.2 10) < 0)) = false) => ?_)
        · refine litE (m := 0) rfl ?_
          refine And.intro (fun _ => by first | exact nt_cat x1.hI h2 | exact nt_cat2 x1.hI) ?_
          refine And.intro (fun _ => by (first | omega | (simp; done) | (simp; omega) | (simp at *; omega) | (simp at *; done) | (simp_all; done) | (simp_all; omega))) ?_
          have hm1 : ntInv (((strOfNums [(IntKind.u8.wrap (IntKind.i64.wrap (48 + (IntKind.i64.wrap (0 - (Int.tmod x1.s.2 10))))))]) ++ x1.s.1), (IntKind.i64.wrap (Int.tdiv x1.s.2 10))) ∧ ntM (((strOfNums [(IntKind.u8.wrap (IntKind.i64.wrap (48 + (IntKind.i64.wrap (0 - (Int.tmod x1.s.2 10))))))]) ++ x1.s.1), (IntKind.i64.wrap (Int.tdiv x1.s.2 10))) < ntM x1.s := by exact nt_step x1.hI (by simpa using h2)
          refine x1.go (v := (((strOfNums [(IntKind.u8.wrap (IntKind.i64.wrap (48 + (IntKind.i64.wrap (0 - (Int.tmod x1.s.2 10))))))]) ++ x1.s.1), (IntKind.i64.wrap (Int.tdiv x1.s.2 10)))) (by first | rfl | simp only [spec_NumText_b1, h1, h2, h3, cond_true, cond_false, Bool.not_true, Bool.not_false, Option.getD_some, Step.fin_stop, Step.fin_done, Fin.get_fin, Fin.get_done]) [] hm1 hm1.2 ?_
          exact ⟨rfl, ⟨rfl, rfl, rfl, trivial⟩, trivial, trivial⟩
        · refine litE (m := 0) rfl ?_
          refine And.intro (fun _ => by first | exact nt_cat x1.hI h2 | exact nt_cat2 x1.hI) ?_
          refine And.intro (fun _ => by (first | omega | (simp; done) | (simp; omega) | (simp at *; omega) | (simp at *; done) | (simp_all; done) | (simp_all; omega))) ?_
          have hm1 : ntInv (((strOfNums [(IntKind.u8.wrap (IntKind.i64.wrap (48 + (Int.tmod x1.s.2 10))))]) ++ x1.s.1), (IntKind.i64.wrap (Int.tdiv x1.s.2 10))) ∧ ntM (((strOfNums [(IntKind.u8.wrap (IntKind.i64.wrap (48 + (Int.tmod x1.s.2 10))))]) ++ x1.s.1), (IntKind.i64.wrap (Int.tdiv x1.s.2 10))) < ntM x1.s := by exact nt_step x1.hI (by simpa using h2)
          refine x1.go (v := (((strOfNums [(IntKind.u8.wrap (IntKind.i64.wrap (48 + (Int.tmod x1.s.2 10))))]) ++ x1.s.1), (IntKind.i64.wrap (Int.tdiv x1.s.2 10)))) (by first | rfl | simp only [spec_NumText_b1, h1, h2, h3, cond_true, cond_false, Bool.not_true, Bool.not_false, Option.getD_some, Step.fin_stop, Step.fin_done, Fin.get_fin, Fin.get_done]) [] hm1 hm1.2 ?_
          exact ⟨rfl, ⟨rfl, rfl, rfl, trivial⟩, trivial, trivial⟩
      · have hb1 := x1.out (by first | rfl | simp only [spec_NumText_b1, h1, h2, cond_true, cond_false, Bool.not_true, Bool.not_false, Option.getD_some, Step.isNext_stop, Step.isNext_done, Step.fin_stop, Step.fin_done, Fin.get_fin, Fin.get_done])
        refine And.intro (fun (h4 : (decide (p0 < 0)) = true) => ?_) (fun (h4 : (decide (p0 < 0)) = false) => ?_)
        · refine And.intro (fun _ => by first | exact nt_cat x1.hI h2 | exact nt_cat2 x1.hI) ?_
          refine And.intro (fun _ => .v _) ?_
          have hg : spec_NumText p0 = ((ByteArray.mk #[45]) ++ x1.s.1) := by
            first | rfl | (simp only [spec_NumText, spec_NumText_b1, h1, h2, hb1, h4, cond_true, cond_false, Step.fin_stop, Step.fin_done, Fin.get_fin, Fin.get_done, Step.fin_next, Bool.not_true, Bool.not_false, Option.getD_some]) | (simp [spec_NumText, spec_NumText_b1, h1, h2, hb1, h4, cond_true, cond_false, Step.fin_stop, Step.fin_done, Fin.get_fin, Fin.get_done, Step.fin_next, Bool.not_true, Bool.not_false, Option.getD_some])
          exact congrArg (fun g : ByteArray => AV.one (.v (.string g))) hg.symm
        · refine And.intro (fun _ => .v _) ?_
          have hg : spec_NumText p0 = x1.s.1 := by
            first | rfl | (simp only [spec_NumText, spec_NumText_b1, h1, h2, hb1, h4, cond_true, cond_false, Step.fin_stop, Step.fin_done, Fin.get_fin, Fin.get_done, Step.fin_next, Bool.not_true, Bool.not_false, Option.getD_some]) | (simp [spec_NumText, spec_NumText_b1, h1, h2, hb1, h4, cond_true, cond_false, Step.fin_stop, Step.fin_done, Fin.get_fin, Fin.get_done, Step.fin_next, Bool.not_true, Bool.not_false, Option.getD_some])
          exact congrArg (fun g : ByteArray => AV.one (.v (.string g))) hg.symm
theorem c_spec_NumText (p0 : Int) : FnOk prog 13 [.one (.v (.int .i64 p0))] ⟨.one (.v (.string (spec_NumText p0))), [], [], false⟩ :=
  FnOk.fits ⟨_, func13, by kernel_rfl, by kernel_rfl⟩ (fun hf => cr_spec_NumText p0 (range_of_fit hf.1))
theorem nt_b1 {s : ByteArray} {x : Int} (hx : x ≠ 0) (h : x.natAbs ≤ 9223372036854775808) : ∃ y, spec_NumText_b1 (s, x) = .next (ByteArray.mk #[UInt8.ofNat (48 + x.natAbs % 10)] ++ s, y) ∧ y.natAbs = x.natAbs / 10 := by
  refine ⟨_, ?_, nt_abs h⟩
  have h0 : (x != 0) = true := by simpa using hx
  have hm : (x.tmod 10).natAbs = x.natAbs % 10 := by rw [Int.natAbs_tmod]; rfl
  have u8w : ∀ k : Nat, k < 10 → strOfNums [IntKind.u8.wrap (IntKind.i64.wrap (48 + (k : Int)))] = ByteArray.mk #[UInt8.ofNat (48 + k)] := by
    intro k hk
    rw [Go.Ev.wrap_small (n := 48 + (k : Int)) (by omega) (by omega)]
    have : IntKind.u8.wrap (48 + (k : Int)) = ((48 + k : Nat) : Int) := by
      simp [IntKind.wrap, IntKind.bits, IntKind.signed]; omega
    rw [this]; rfl
  unfold spec_NumText_b1
  simp only [h0, cond_true]
  cases hd : decide (x.tmod 10 < 0) with
  | true =>
    rw [decide_eq_true_eq] at hd
    have e : IntKind.i64.wrap (0 - x.tmod 10) = ((x.natAbs % 10 : Nat) : Int) := by rw [Go.Ev.wrap_small (n := 0 - x.tmod 10) (by omega) (by omega)]; omega
    simp only [cond_true]
    rw [e, u8w _ (by omega)]
  | false =>
    rw [decide_eq_false_iff_not] at hd
    have e : x.tmod 10 = ((x.natAbs % 10 : Nat) : Int) := by omega
    simp only [cond_false]
    rw [e, u8w _ (by omega)]
theorem mk_app (a b : List UInt8) : ByteArray.mk (a ++ b).toArray = ByteArray.mk a.toArray ++ ByteArray.mk b.toArray := by
  apply ByteArray.ext
  simp [ByteArray.data_append]
theorem nt_loop : ∀ (u N : Nat) (s : ByteArray) (x : Int), x.natAbs = u → u ≤ N → u ≤ 9223372036854775808 → ∃ y, loopW spec_NumText_b1 N (s, x) = .fin ((if u = 0 then s else ByteArray.mk (Lib.decDigits u).toArray ++ s), y) := by
  intro u
  induction u using Nat.strongRecOn with
  | _ u ih =>
    intro N s x hx hN hu
    by_cases h0 : u = 0
    · have : x = 0 := by omega
      subst this
      refine ⟨0, ?_⟩
      cases N <;> simp [loopW, spec_NumText_b1, Step.fin, h0]
    · obtain ⟨N, rfl⟩ : ∃ n, N = n + 1 := ⟨N - 1, by omega⟩
      obtain ⟨y, e, hy⟩ := nt_b1 (s := s) (x := x) (by omega) (by omega)
      rw [loopW, e]
      simp only
      obtain ⟨z, hz⟩ := ih (u / 10) (by omega) N (ByteArray.mk #[UInt8.ofNat (48 + x.natAbs % 10)] ++ s) y (by omega) (by omega) (by omega)
      refine ⟨z, ?_⟩
      rw [hz, hx, if_neg h0]
      congr 2
      by_cases h1 : u / 10 = 0
      · rw [if_pos h1, Lib.decDigits, dif_pos (by omega), Nat.mod_eq_of_lt (by omega)]
      · rw [if_neg h1, ← ByteArray.append_assoc]
        congr 1
        conv => rhs; rw [Lib.decDigits, dif_neg (by omega : ¬ u < 10)]
        rw [mk_app]
theorem main_NumText {n : Int} (h : I64 n) : spec_NumText n = itoaS n := by
  have h1 := h.1
  have h2 := h.2
  unfold spec_NumText
  by_cases h0 : n = 0
  · subst h0
    simp [itoaS, Lib.itoa, Lib.decDigits]
  · have e0 : (n == 0) = false := by simpa using h0
    simp only [e0, cond_false]
    obtain ⟨y, hy⟩ := nt_loop n.natAbs n.natAbs (ByteArray.mk #[]) n rfl (Nat.le_refl _) (by omega)
    have e1 : ntM (ByteArray.mk #[], n) = n.natAbs := rfl
    rw [e1, hy, if_neg (by omega)]
    have ee : ∀ b : ByteArray, b ++ ByteArray.mk #[] = b := fun b => by apply ByteArray.ext; simp [ByteArray.data_append]
    simp only [Fin.get, ee]
    by_cases hn : n < 0
    · have e2 : decide (n < 0) = true := by simpa using hn
      simp only [e2, cond_true]
      rw [itoaS, Lib.itoa, if_pos hn]
      exact (mk_app [45] _).symm
    · have e2 : decide (n < 0) = false := by simpa using hn
      simp only [e2, cond_false]
      rw [itoaS, Lib.itoa, if_neg hn]
      congr 3
      omega
theorem size_spec_NumText {n : Int} (h : I64 n) : (spec_NumText n).size ≤ 20 := by
  rw [main_NumText h]; exact itoaS_size h.1 h.2
def spec_CountText (p0 : Count) : ByteArray :=
  (((((((((spec_NumText p0.Came) ++ (ByteArray.mk #[32])) ++ (spec_NumText p0.Went)) ++ (ByteArray.mk #[32])) ++ (spec_NumText p0.Moving)) ++ (ByteArray.mk #[32])) ++ (spec_NumText p0.Held)) ++ (ByteArray.mk #[32])) ++ (spec_NumText p0.Dropped))
theorem cr_spec_CountText (p0 : Count) (hr0 : Count.rg p0) : FnOk prog 5 [.agg (Count.cells p0)] ⟨.one (.v (.string (spec_CountText p0))), [], [], false⟩ := by
  refine FnOk.intro (E := env) envOk wide func5 rfl (by kernel_rfl) rfl rfl ?_
  refine litE (m := 0) rfl ?_
  refine ⟨_, _, c_spec_NumText p0.Came, (FzAs.same _), ?_⟩
  refine And.intro (fun _ => by have z1 := size_spec_NumText hr0.Came; have z2 := size_spec_NumText hr0.Went; have z3 := size_spec_NumText hr0.Moving; have z4 := size_spec_NumText hr0.Held; have z5 := size_spec_NumText hr0.Dropped; have q : (ByteArray.mk #[32]).size = 1 := rfl; (try simp only [ByteArray.size_append]); omega) ?_
  refine ⟨_, _, c_spec_NumText p0.Went, (FzAs.same _), ?_⟩
  refine And.intro (fun _ => by have z1 := size_spec_NumText hr0.Came; have z2 := size_spec_NumText hr0.Went; have z3 := size_spec_NumText hr0.Moving; have z4 := size_spec_NumText hr0.Held; have z5 := size_spec_NumText hr0.Dropped; have q : (ByteArray.mk #[32]).size = 1 := rfl; (try simp only [ByteArray.size_append]); omega) ?_
  refine And.intro (fun _ => by have z1 := size_spec_NumText hr0.Came; have z2 := size_spec_NumText hr0.Went; have z3 := size_spec_NumText hr0.Moving; have z4 := size_spec_NumText hr0.Held; have z5 := size_spec_NumText hr0.Dropped; have q : (ByteArray.mk #[32]).size = 1 := rfl; (try simp only [ByteArray.size_append]); omega) ?_
  refine ⟨_, _, c_spec_NumText p0.Moving, (FzAs.same _), ?_⟩
  refine And.intro (fun _ => by have z1 := size_spec_NumText hr0.Came; have z2 := size_spec_NumText hr0.Went; have z3 := size_spec_NumText hr0.Moving; have z4 := size_spec_NumText hr0.Held; have z5 := size_spec_NumText hr0.Dropped; have q : (ByteArray.mk #[32]).size = 1 := rfl; (try simp only [ByteArray.size_append]); omega) ?_
  refine And.intro (fun _ => by have z1 := size_spec_NumText hr0.Came; have z2 := size_spec_NumText hr0.Went; have z3 := size_spec_NumText hr0.Moving; have z4 := size_spec_NumText hr0.Held; have z5 := size_spec_NumText hr0.Dropped; have q : (ByteArray.mk #[32]).size = 1 := rfl; (try simp only [ByteArray.size_append]); omega) ?_
  refine ⟨_, _, c_spec_NumText p0.Held, (FzAs.same _), ?_⟩
  refine And.intro (fun _ => by have z1 := size_spec_NumText hr0.Came; have z2 := size_spec_NumText hr0.Went; have z3 := size_spec_NumText hr0.Moving; have z4 := size_spec_NumText hr0.Held; have z5 := size_spec_NumText hr0.Dropped; have q : (ByteArray.mk #[32]).size = 1 := rfl; (try simp only [ByteArray.size_append]); omega) ?_
  refine And.intro (fun _ => by have z1 := size_spec_NumText hr0.Came; have z2 := size_spec_NumText hr0.Went; have z3 := size_spec_NumText hr0.Moving; have z4 := size_spec_NumText hr0.Held; have z5 := size_spec_NumText hr0.Dropped; have q : (ByteArray.mk #[32]).size = 1 := rfl; (try simp only [ByteArray.size_append]); omega) ?_
  refine ⟨_, _, c_spec_NumText p0.Dropped, (FzAs.same _), ?_⟩
  refine And.intro (fun _ => by have z1 := size_spec_NumText hr0.Came; have z2 := size_spec_NumText hr0.Went; have z3 := size_spec_NumText hr0.Moving; have z4 := size_spec_NumText hr0.Held; have z5 := size_spec_NumText hr0.Dropped; have q : (ByteArray.mk #[32]).size = 1 := rfl; (try simp only [ByteArray.size_append]); omega) ?_
  refine And.intro (fun _ => .v _) ?_
  have hg : spec_CountText p0 = (((((((((spec_NumText p0.Came) ++ (ByteArray.mk #[32])) ++ (spec_NumText p0.Went)) ++ (ByteArray.mk #[32])) ++ (spec_NumText p0.Moving)) ++ (ByteArray.mk #[32])) ++ (spec_NumText p0.Held)) ++ (ByteArray.mk #[32])) ++ (spec_NumText p0.Dropped)) := by
    first | rfl | (simp only [spec_CountText, cond_true, cond_false, Step.fin_stop, Step.fin_done, Fin.get_fin, Fin.get_done, Step.fin_next, Bool.not_true, Bool.not_false, Option.getD_some]) | (simp [spec_CountText, cond_true, cond_false, Step.fin_stop, Step.fin_done, Fin.get_fin, Fin.get_done, Step.fin_next, Bool.not_true, Bool.not_false, Option.getD_some])
  exact congrArg (fun g : ByteArray => AV.one (.v (.string g))) hg.symm
theorem c_spec_CountText (p0 : Count) : FnOk prog 5 [.agg (Count.cells p0)] ⟨.one (.v (.string (spec_CountText p0))), [], [], false⟩ :=
  FnOk.fits ⟨_, func5, by kernel_rfl, by kernel_rfl⟩ (fun hf => cr_spec_CountText p0 (rg_Count hf.1))
def impl_NumText (p0 : Int) : ByteArray :=
  (itoaS p0)
theorem c_impl_NumText (p0 : Int) : FnOk prog 14 [.one (.v (.int .i64 p0))] ⟨.one (.v (.string (impl_NumText p0))), [], [], false⟩ := by
  refine FnOk.intro (E := env) envOk wide func14 rfl (by kernel_rfl) rfl rfl ?_
  refine ⟨_, _, c_itoa p0, (FzAs.same _), ?_⟩
  refine litE (m := 1) rfl ?_
  refine And.intro (fun _ => .v _) ?_
  have hg : impl_NumText p0 = (itoaS p0) := by
    first | rfl | (simp only [impl_NumText, cond_true, cond_false, Step.fin_stop, Step.fin_done, Fin.get_fin, Fin.get_done, Step.fin_next, Bool.not_true, Bool.not_false, Option.getD_some]) | (simp [impl_NumText, cond_true, cond_false, Step.fin_stop, Step.fin_done, Fin.get_fin, Fin.get_done, Step.fin_next, Bool.not_true, Bool.not_false, Option.getD_some])
  exact congrArg (fun g : ByteArray => AV.one (.v (.string g))) hg.symm
theorem size_impl_NumText {n : Int} (h : I64 n) : (impl_NumText n).size ≤ 20 := itoaS_size h.1 h.2
def impl_CountText (p0 : Count) : ByteArray :=
  (((((((((impl_NumText p0.Came) ++ (ByteArray.mk #[32])) ++ (impl_NumText p0.Went)) ++ (ByteArray.mk #[32])) ++ (impl_NumText p0.Moving)) ++ (ByteArray.mk #[32])) ++ (impl_NumText p0.Held)) ++ (ByteArray.mk #[32])) ++ (impl_NumText p0.Dropped))
theorem cr_impl_CountText (p0 : Count) (hr0 : Count.rg p0) : FnOk prog 7 [.agg (Count.cells p0)] ⟨.one (.v (.string (impl_CountText p0))), [], [], false⟩ := by
  refine FnOk.intro (E := env) envOk wide func7 rfl (by kernel_rfl) rfl rfl ?_
  refine litE (m := 0) rfl ?_
  refine ⟨_, _, c_impl_NumText p0.Came, (FzAs.same _), ?_⟩
  refine And.intro (fun _ => by have z1 := size_impl_NumText hr0.Came; have z2 := size_impl_NumText hr0.Went; have z3 := size_impl_NumText hr0.Moving; have z4 := size_impl_NumText hr0.Held; have z5 := size_impl_NumText hr0.Dropped; have q : (ByteArray.mk #[32]).size = 1 := rfl; (try simp only [ByteArray.size_append]); omega) ?_
  refine ⟨_, _, c_impl_NumText p0.Went, (FzAs.same _), ?_⟩
  refine And.intro (fun _ => by have z1 := size_impl_NumText hr0.Came; have z2 := size_impl_NumText hr0.Went; have z3 := size_impl_NumText hr0.Moving; have z4 := size_impl_NumText hr0.Held; have z5 := size_impl_NumText hr0.Dropped; have q : (ByteArray.mk #[32]).size = 1 := rfl; (try simp only [ByteArray.size_append]); omega) ?_
  refine And.intro (fun _ => by have z1 := size_impl_NumText hr0.Came; have z2 := size_impl_NumText hr0.Went; have z3 := size_impl_NumText hr0.Moving; have z4 := size_impl_NumText hr0.Held; have z5 := size_impl_NumText hr0.Dropped; have q : (ByteArray.mk #[32]).size = 1 := rfl; (try simp only [ByteArray.size_append]); omega) ?_
  refine ⟨_, _, c_impl_NumText p0.Moving, (FzAs.same _), ?_⟩
  refine And.intro (fun _ => by have z1 := size_impl_NumText hr0.Came; have z2 := size_impl_NumText hr0.Went; have z3 := size_impl_NumText hr0.Moving; have z4 := size_impl_NumText hr0.Held; have z5 := size_impl_NumText hr0.Dropped; have q : (ByteArray.mk #[32]).size = 1 := rfl; (try simp only [ByteArray.size_append]); omega) ?_
  refine And.intro (fun _ => by have z1 := size_impl_NumText hr0.Came; have z2 := size_impl_NumText hr0.Went; have z3 := size_impl_NumText hr0.Moving; have z4 := size_impl_NumText hr0.Held; have z5 := size_impl_NumText hr0.Dropped; have q : (ByteArray.mk #[32]).size = 1 := rfl; (try simp only [ByteArray.size_append]); omega) ?_
  refine ⟨_, _, c_impl_NumText p0.Held, (FzAs.same _), ?_⟩
  refine And.intro (fun _ => by have z1 := size_impl_NumText hr0.Came; have z2 := size_impl_NumText hr0.Went; have z3 := size_impl_NumText hr0.Moving; have z4 := size_impl_NumText hr0.Held; have z5 := size_impl_NumText hr0.Dropped; have q : (ByteArray.mk #[32]).size = 1 := rfl; (try simp only [ByteArray.size_append]); omega) ?_
  refine And.intro (fun _ => by have z1 := size_impl_NumText hr0.Came; have z2 := size_impl_NumText hr0.Went; have z3 := size_impl_NumText hr0.Moving; have z4 := size_impl_NumText hr0.Held; have z5 := size_impl_NumText hr0.Dropped; have q : (ByteArray.mk #[32]).size = 1 := rfl; (try simp only [ByteArray.size_append]); omega) ?_
  refine ⟨_, _, c_impl_NumText p0.Dropped, (FzAs.same _), ?_⟩
  refine And.intro (fun _ => by have z1 := size_impl_NumText hr0.Came; have z2 := size_impl_NumText hr0.Went; have z3 := size_impl_NumText hr0.Moving; have z4 := size_impl_NumText hr0.Held; have z5 := size_impl_NumText hr0.Dropped; have q : (ByteArray.mk #[32]).size = 1 := rfl; (try simp only [ByteArray.size_append]); omega) ?_
  refine And.intro (fun _ => .v _) ?_
  have hg : impl_CountText p0 = (((((((((impl_NumText p0.Came) ++ (ByteArray.mk #[32])) ++ (impl_NumText p0.Went)) ++ (ByteArray.mk #[32])) ++ (impl_NumText p0.Moving)) ++ (ByteArray.mk #[32])) ++ (impl_NumText p0.Held)) ++ (ByteArray.mk #[32])) ++ (impl_NumText p0.Dropped)) := by
    first | rfl | (simp only [impl_CountText, cond_true, cond_false, Step.fin_stop, Step.fin_done, Fin.get_fin, Fin.get_done, Step.fin_next, Bool.not_true, Bool.not_false, Option.getD_some]) | (simp [impl_CountText, cond_true, cond_false, Step.fin_stop, Step.fin_done, Fin.get_fin, Fin.get_done, Step.fin_next, Bool.not_true, Bool.not_false, Option.getD_some])
  exact congrArg (fun g : ByteArray => AV.one (.v (.string g))) hg.symm
theorem c_impl_CountText (p0 : Count) : FnOk prog 7 [.agg (Count.cells p0)] ⟨.one (.v (.string (impl_CountText p0))), [], [], false⟩ :=
  FnOk.fits ⟨_, func7, by kernel_rfl, by kernel_rfl⟩ (fun hf => cr_impl_CountText p0 (rg_Count hf.1))
def laws_FnExactCountText (p0 : Count) : Bool :=
  (bif (!decide ((impl_CountText (laws_toCount p0)) = (spec_CountText (laws_toCount p0)))) then false else true)
theorem cr_laws_FnExactCountText (p0 : Count) (hr0 : Count.rg p0) : FnOk prog 3 [.agg (Count.cells p0)] ⟨.one (.v (.bool (laws_FnExactCountText p0))), [], [], false⟩ := by
  refine FnOk.intro (E := env) envOk wide func3 rfl (by kernel_rfl) rfl rfl ?_
  refine litE (m := 0) rfl ?_
  refine ⟨_, _, c_laws_toCount p0, (FzAs.same _), ?_⟩
  refine litE (m := 2) rfl ?_
  refine ⟨_, _, c_spec_CountText (laws_toCount p0), (FzAs.same _), ?_⟩
  refine litE (m := 3) rfl ?_
  refine ⟨_, _, c_laws_toCount p0, (FzAs.same _), ?_⟩
  refine litE (m := 4) rfl ?_
  refine ⟨_, _, c_impl_CountText (laws_toCount p0), (FzAs.same _), ?_⟩
  refine litE (m := 5) rfl ?_
  refine And.intro (fun (h1 : (!decide ((impl_CountText (laws_toCount p0)) = (spec_CountText (laws_toCount p0)))) = true) => ?_) (fun (h1 : (!decide ((impl_CountText (laws_toCount p0)) = (spec_CountText (laws_toCount p0)))) = false) => ?_)
  · refine And.intro (fun _ => .v _) ?_
    have hg : laws_FnExactCountText p0 = false := by
      first | rfl | (simp only [laws_FnExactCountText, h1, cond_true, cond_false, Step.fin_stop, Step.fin_done, Fin.get_fin, Fin.get_done, Step.fin_next, Bool.not_true, Bool.not_false, Option.getD_some]) | (simp [laws_FnExactCountText, h1, cond_true, cond_false, Step.fin_stop, Step.fin_done, Fin.get_fin, Fin.get_done, Step.fin_next, Bool.not_true, Bool.not_false, Option.getD_some])
    exact congrArg (fun g : Bool => AV.one (.v (.bool g))) hg.symm
  · refine And.intro (fun _ => .v _) ?_
    have hg : laws_FnExactCountText p0 = true := by
      first | rfl | (simp only [laws_FnExactCountText, h1, cond_true, cond_false, Step.fin_stop, Step.fin_done, Fin.get_fin, Fin.get_done, Step.fin_next, Bool.not_true, Bool.not_false, Option.getD_some]) | (simp [laws_FnExactCountText, h1, cond_true, cond_false, Step.fin_stop, Step.fin_done, Fin.get_fin, Fin.get_done, Step.fin_next, Bool.not_true, Bool.not_false, Option.getD_some])
    exact congrArg (fun g : Bool => AV.one (.v (.bool g))) hg.symm
theorem c_laws_FnExactCountText (p0 : Count) : FnOk prog 3 [.agg (Count.cells p0)] ⟨.one (.v (.bool (laws_FnExactCountText p0))), [], [], false⟩ :=
  FnOk.fits ⟨_, func3, by kernel_rfl, by kernel_rfl⟩ (fun hf => cr_laws_FnExactCountText p0 (rg_Count hf.1))
theorem law_CountText (p0 : Count) (hr : Count.rg p0) : laws_FnExactCountText p0 = true := by
  have e : impl_CountText (laws_toCount p0) = spec_CountText (laws_toCount p0) := by
    show impl_CountText p0 = spec_CountText p0
    unfold impl_CountText spec_CountText
    rw [main_NumText hr.Came, main_NumText hr.Went, main_NumText hr.Moving, main_NumText hr.Held, main_NumText hr.Dropped]
    rfl
  simp [laws_FnExactCountText, e]
theorem rows_sl {α : Type} (f : α → List T) (W : α → Prop) : ∀ rows : List (List T), (∀ r ∈ rows, ∃ x, r = f x ∧ W x) → ∃ l : List α, rows = l.map f ∧ ∀ x ∈ l, W x
  | [], _ => ⟨[], rfl, by simp⟩
  | r :: rows, h => by
    obtain ⟨x, hx, hw⟩ := h r (by simp)
    obtain ⟨l, hl, hw'⟩ := rows_sl f W rows (fun r hr => h r (by simp [hr]))
    exact ⟨x :: l, by simp [hx, hl], fun y hy => by rcases List.mem_cons.1 hy with rfl | hy; exact hw; exact hw' y hy⟩
theorem shape_sl {α : Type} (f : α → List T) {P : Nat → α → Prop} (W : α → Prop) (hW : W = P 9223372036854775807) {n t e k : Nat} (ht : prog.underlying t = some (.slice e)) (hk : prog.cellsOf e = k) {y : List T} (h : Shape prog (n + 1) t y) (hr : ∀ r, Shape prog n e r → ∃ x, r = f x ∧ W x) :
    ∃ l : List α, y = [.s false k (l.map f)] ∧ bdS P 9223372036854775807 l := by
  subst hW
  unfold Shape at h
  rw [ht] at h
  obtain ⟨rows, h1, h2, h3⟩ := h
  rw [hk] at h1
  obtain ⟨l, rfl, hw⟩ := rows_sl f _ rows (fun r hr' => hr r (h3 r hr').2)
  exact ⟨l, h1, by simpa [maxLen] using h2, hw⟩
theorem shape3 {n : Nat} {l : List T} (h : Shape prog (n + 1) 3 l) : ∃ x : Int, l = [.v (.int .i64 x)] ∧ True := by
  simp only [Shape, underlying3] at h
  obtain ⟨x, hx, _⟩ := h
  exact ⟨x, hx, trivial⟩
theorem arg3 {y : T} (h : Shape prog 20 3 [y]) : ∃ x : Int, y = .v (.int .i64 x) ∧ True := by
  obtain ⟨x, hx, hw⟩ := shape3 (n := 19) h
  exact ⟨x, by simpa using hx, hw⟩
theorem shape23 {n : Nat} {l : List T} (h : Shape prog (n + 2) 23 l) : ∃ x : Count, l = Count.cells x ∧ True := by
  unfold Shape at h
  rw [underlying23] at h
  simp only [ShapeL] at h
  obtain ⟨_, _, rfl, h0, _, _, rfl, h1, _, _, rfl, h2, _, _, rfl, h3, _, _, rfl, h4, rfl⟩ := h
  obtain ⟨x0, rfl, w0⟩ := shape3 h0
  obtain ⟨x1, rfl, w1⟩ := shape3 h1
  obtain ⟨x2, rfl, w2⟩ := shape3 h2
  obtain ⟨x3, rfl, w3⟩ := shape3 h3
  obtain ⟨x4, rfl, w4⟩ := shape3 h4
  exact ⟨⟨x0, x1, x2, x3, x4⟩, rfl, trivial⟩
theorem arg23 {l : List T} (h : Shape prog 20 23 l) : ∃ x : Count, l = Count.cells x ∧ True := shape23 (n := 18) h
theorem law_c (p0 : Count) : FnOk prog 3 [.agg (Count.cells p0)] ⟨.one (.v (.bool true)), [], [], false⟩ :=
  FnOk.fits ⟨_, func3, by kernel_rfl, by kernel_rfl⟩ (fun hf => by
    have h := c_laws_FnExactCountText p0
    rw [law_CountText p0 (rg_Count hf.1)] at h
    exact h)
end Go.Proofs.Tryd.Ev
