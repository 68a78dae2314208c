/- The library's contracts at this seat; a number that is read. -/
import Derived.Test.YtjpgineaoghoeaaDoorLStrC
import Derived.Test.YtjpgineaoghoeaaDoorTrydSh
import Derived.BigCall
import Derived.Lib.AtoiAllCases
namespace Go.Proofs.Tryd.Ev
open Go Go.Ev Go.Proofs Go.RowKit
set_option linter.unusedSectionVars false
set_option linter.unusedVariables false
set_option linter.unusedSimpArgs false
theorem c_itoa (n : Int) : FnOk prog 74 [.one (.v (.int .i64 n))] ⟨.one (.v (.string (itoaS n))), [], [], false⟩ :=
  itoa_contract Tryd.laysM171 (gl := 3) (by kernel_rfl) ⟨_, func74, by kernel_rfl, by kernel_rfl⟩ n
theorem c_indexByte (s : ByteArray) (c : Int) : FnOk prog 23 [.one (.v (.string s)), .one (.v (.int .u8 c))] ⟨.one (.v (.int .i64 (indexByteS s c))), [], [], false⟩ :=
  indexByte_contract Tryd.lays137 ⟨_, func23, by kernel_rfl, by kernel_rfl⟩ s c
theorem c_cut (s sep : ByteArray) (h : sep.size = 1) : FnOk prog 46 [.one (.v (.string s)), .one (.v (.string sep))] ⟨.tup [.one (.v (.string (cutS s sep).1)), .one (.v (.string (cutS s sep).2.1)), .one (.v (.bool (cutS s sep).2.2))], [], [], false⟩ :=
  cut_contract Tryd.lays145 ⟨_, func46, by kernel_rfl, by kernel_rfl⟩ s sep h
/-- The number that a text is. -/
def pnum (s : ByteArray) : Int × Bool :=
  match Lib.atoiAll s.data.toList with
  | .ok v => bif decide (itoaS v = s) && (decide (0 ≤ v) && decide (v ≤ 2147483647)) then (v, true) else (0, false)
  | _ => (0, false)
theorem below_tab {W W' : World} (h : Lib.TabIs prog W "internal/strconv.uint64pow10" .u64 Lib.pow10Tab) (hb : Below W.heap.size W W') : Lib.TabIs prog W' "internal/strconv.uint64pow10" .u64 Lib.pow10Tab := by
  have hg : prog.globalNamed "internal/strconv.uint64pow10" = some 3 := by kernel_rfl
  have hlt : 3 < W.heap.size := by
    unfold Lib.TabIs at h
    exact var_lt hg h
  exact TabIs.cong hg (hb.block 3 hlt) h
theorem below_trans {A B C : World} (h : Below A.heap.size A B) (k : Below B.heap.size B C) : Below A.heap.size A C :=
  ⟨k.os.trans h.os, k.tape.trans h.tape, k.output.trans h.output, Nat.le_trans h.size k.size, fun b hb => (k.block b (Nat.lt_of_lt_of_le hb h.size)).trans (h.block b hb)⟩
theorem itoa_walk (n : Int) (h0 : -9223372036854775808 ≤ n) (h1 : n ≤ 9223372036854775807) (w : World) (ht : Lib.TabIs prog w "internal/strconv.uint64pow10" .u64 Lib.pow10Tab) :
    Calls prog 74 #[.int .i64 n] w fun e w' => e = .returned (.string (itoaS n)) ∧ Below w.heap.size w w' := by
  refine (Tryd.strconv_Itoa n h0 h1 w ht).mono ?_
  rintro e w' ⟨rfl, k, os, rfl⟩
  refine ⟨rfl, rfl, rfl, rfl, ?_, fun b hb => ?_⟩
  · simp [Sort.grow, World.drewN]
  · simp only [Sort.grow, World.drewN]
    rw [Array.getElem?_append_left hb]
theorem numText_walk (n : Int) (h0 : -9223372036854775808 ≤ n) (h1 : n ≤ 9223372036854775807) (w : World) (ht : Lib.TabIs prog w "internal/strconv.uint64pow10" .u64 Lib.pow10Tab) :
    Calls prog 49 #[.int .i64 n] w fun e w' => e = .returned (.string (itoaS n)) ∧ Below w.heap.size w w' := by
  go_enter Tryd.func49, Tryd.ntmps49
  go_wp2_with (go_at_call 74; refine (itoa_walk n h0 h1 _ ht).mono ?_; rintro e w' ⟨rfl, hb⟩)
  go_ret
  exact ⟨rfl, hb⟩
theorem eq_toList {a b : ByteArray} : a.toList = b.toList ↔ a = b := by
  refine ⟨fun h => ?_, fun h => by rw [h]⟩
  rw [Lib.toList_data, Lib.toList_data] at h
  exact ByteArray.ext (Array.toList_inj.1 h)
theorem pnum_ok {s : ByteArray} {v : Int} (h : Lib.atoiAll s.data.toList = .ok v) (h1 : itoaS v = s) (h2 : 0 ≤ v) (h3 : v ≤ 2147483647) : pnum s = (v, true) := by
  unfold pnum; rw [h]; simp only [h1, h2, h3, decide_true, Bool.and_self, cond_true]
theorem pnum_no {s : ByteArray} (h : ∀ v, Lib.atoiAll s.data.toList = .ok v → ¬ (itoaS v = s ∧ 0 ≤ v ∧ v ≤ 2147483647)) : pnum s = (0, false) := by
  unfold pnum
  cases ha : Lib.atoiAll s.data.toList with
  | ok v =>
    have := h v ha
    have e : (decide (itoaS v = s) && (decide (0 ≤ v) && decide (v ≤ 2147483647))) = false := by
      rw [Bool.eq_false_iff]; intro hc; simp only [Bool.and_eq_true, decide_eq_true_eq] at hc; exact this hc
    simp only [e, cond_false]
  | _ => rfl
theorem pnum_cases (s : ByteArray) : (∃ v, pnum s = (v, true) ∧ itoaS v = s ∧ 0 ≤ v ∧ v ≤ 2147483647 ∧ Lib.atoiAll s.data.toList = .ok v) ∨ pnum s = (0, false) := by
  by_cases h : ∃ v, Lib.atoiAll s.data.toList = .ok v ∧ itoaS v = s ∧ 0 ≤ v ∧ v ≤ 2147483647
  · obtain ⟨v, h0, h1, h2, h3⟩ := h
    exact .inl ⟨v, pnum_ok h0 h1 h2 h3, h1, h2, h3, h0⟩
  · exact .inr (pnum_no fun v h0 h1 => h ⟨v, h0, h1⟩)
theorem parseNum_walk (s : ByteArray) (hs : s.size ≤ 281474976710656) (w : World) (ht : Lib.TabIs prog w "internal/strconv.uint64pow10" .u64 Lib.pow10Tab) (hy : ∃ tp p, w.var? prog "strconv.ErrSyntax" = some #[.iface tp p]) (hr : ∃ tp p, w.var? prog "strconv.ErrRange" = some #[.iface tp p]) :
    Calls prog 24 #[.string s] w fun e w' => e = .returned (.tuple #[.int .i64 (pnum s).1, .bool (pnum s).2]) ∧ Below w.heap.size w w' := by
  obtain ⟨ty, py, hy⟩ := hy
  obtain ⟨tr, pr, hr⟩ := hr
  cases h : Lib.atoiAll s.data.toList with
  | «syntax» =>
    rw [pnum_no (s := s) (fun v hv => by rw [h] at hv; cases hv)]
    go_enter Tryd.func24, Tryd.ntmps24
    go_wp2_with (first | (go_at_call 48; refine (Tryd.strconv_Atoi_syntax_var s hs h ty py _ hy).mono ?_; rintro e w' ⟨N, rfl, hN, hc, hb⟩) | go_in)
    go_ret2
    exact ⟨rfl, hb⟩
  | range =>
    rw [pnum_no (s := s) (fun v hv => by rw [h] at hv; cases hv)]
    go_enter Tryd.func24, Tryd.ntmps24
    go_wp2_with (first | (go_at_call 48; refine (Tryd.strconv_Atoi_range_var s hs h tr pr _ hr).mono ?_; rintro e w' ⟨N, rfl, hN, hc, hb⟩) | go_in)
    go_ret2
    exact ⟨rfl, hb⟩
  | ok v =>
    have hv : -9223372036854775808 ≤ v ∧ v ≤ 9223372036854775807 := Lib.atoiAll_bounds h
    obtain ⟨S, hS⟩ : ∃ S, itoaS v = S := ⟨_, rfl⟩
    have hn : ∀ W, Below w.heap.size w W → Calls prog 49 #[.int .i64 v] W fun e w' => e = .returned (.string S) ∧ Below W.heap.size W w' := fun W hb => hS ▸ numText_walk v hv.1 hv.2 W (below_tab ht hb)
    go_enter Tryd.func24, Tryd.ntmps24
    go_wp2_with (first | (go_at_call 48; refine (Tryd.strconv_Atoi_ok s (by omega) v h _).mono ?_; rintro e w1 ⟨rfl, hw⟩; have hb1 : Below w.heap.size w w1 := (by rcases hw with rfl | ⟨t, rfl⟩; exact Below.refl _ _; exact Lib.bytesWorld_below _ _ _)) | (go_at_call 49; refine (hn _ (by assumption)).mono ?_; rintro e w2 ⟨rfl, hb2⟩) | go_in)
    · have e1 : S = s := eq_toList.1 ‹_›
      have e2 : (!decide (v ≤ 2147483647)) = true := ‹_›
      have e3 : ¬ v ≤ 2147483647 := by simpa using e2
      rw [pnum_no (s := s) (fun v' hv' hc => by rw [h] at hv'; cases hv'; exact e3 hc.2.2)]
      go_ret2
      exact ⟨rfl, below_trans hb1 hb2⟩
    · have e1 : S = s := eq_toList.1 ‹_›
      have e2 : (!decide (v ≤ 2147483647)) = false := ‹_›
      have e0 : 0 ≤ v := ‹_›
      have e3 : v ≤ 2147483647 := by simpa using e2
      rw [pnum_ok h (hS.trans e1) e0 e3]
      go_ret2
      exact ⟨rfl, below_trans hb1 hb2⟩
    · have e1 : S = s := eq_toList.1 ‹_›
      have e0 : v < 0 := ‹_›
      rw [pnum_no (s := s) (fun v' hv' hc => by rw [h] at hv'; cases hv'; omega)]
      go_ret2
      exact ⟨rfl, below_trans hb1 hb2⟩
    · have e1 : ¬ S.toList = s.toList := ‹_›
      rw [pnum_no (s := s) (fun v' hv' hc => by rw [h] at hv'; cases hv'; exact e1 (eq_toList.2 (hS.symm.trans hc.1)))]
      go_ret2
      exact ⟨rfl, below_trans hb1 hb2⟩
theorem c_parseNum (s : ByteArray) (hs : s.size ≤ 281474976710656) : FnOk prog 24 [.one (.v (.string s))] ⟨.tup [.one (.v (.int .i64 (pnum s).1)), .one (.v (.bool (pnum s).2))], [], [], false⟩ := by
  refine FnOk.ofCallsN (xs := [.string s]) (r := .tuple #[.int .i64 (pnum s).1, .bool (pnum s).2]) ⟨_, func24, by kernel_rfl, by kernel_rfl⟩ (fun hx => ⟨rfl, fun j a u ha hu => ?_⟩) (fun w A hx hG => ?_)
  · match j, ha, hu with
    | 0, rfl, rfl =>
      refine ⟨_, rfl, rfl, ?_⟩
      show fitI .i64 _ = true
      rcases pnum_cases s with ⟨v, e, _, h2, h3, _⟩ | e
      · rw [e]
        show fitI .i64 v = true
        obtain ⟨k, rfl⟩ : ∃ k : Nat, v = k := ⟨v.toNat, by omega⟩
        exact Nat.ble_eq_true_of_le (by show k ≤ 9223372036854775807; omega)
      · rw [e]; rfl
    | 1, rfl, rfl => exact ⟨_, rfl, rfl, rfl⟩
  · exact parseNum_walk s hs w (hG.pow10 (gl := 3) (by kernel_rfl)) (hG.syn (gl := 1) (by kernel_rfl)) (hG.ran (gl := 2) (by kernel_rfl))
end Go.Proofs.Tryd.Ev
