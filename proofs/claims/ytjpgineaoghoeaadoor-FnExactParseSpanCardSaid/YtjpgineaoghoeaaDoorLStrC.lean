/- strings.Cut at a text of one byte. -/
import Derived.Test.YtjpgineaoghoeaaDoorLStrT
import Derived.Shelf.RegionOpenPlain
import Derived.WalkKit
import Derived.Lib.Walk
import Derived.Lib.Strings
import Derived.Lib.Slices
import Derived.Lib.Bytealg
set_option linter.unusedSectionVars false
set_option linter.unusedVariables false
set_option linter.unusedSimpArgs false
namespace Go.Ev
open Go Go.Proofs Go.Shelf Go.RowKit Go.Lib
variable {P : Program} {ρ : Ren}
theorem index_one (c : UInt8) : ∀ s : List UInt8, Lib.index s [c] = Lib.indexByte s c
  | [] => rfl
  | b :: l => by
    unfold Lib.index Lib.indexByte
    rw [index_one c l]
    have : ([c] : List UInt8).isPrefixOf (b :: l) = (b == c) := by
      show (c == b && List.isPrefixOf [] l) = (b == c)
      rw [show List.isPrefixOf ([] : List UInt8) l = true by cases l <;> rfl, Bool.and_true, Bool.eq_iff_iff, beq_iff_eq, beq_iff_eq]; exact eq_comm
    rw [this]
set_option maxHeartbeats 2000000 in
set_option maxRecDepth 100000 in
theorem cut_inner (L : Lays.n220 P ρ) (s : ByteArray) (c : UInt8) (hs : s.size ≤ 9223372036854775807) (w : World) :
    Calls P (ρ.f 220) #[.string s, .string ⟨#[c]⟩] w fun e w' => e = .returned (.tuple #[.string ⟨(Lib.cut s.data.toList [c]).1.toArray⟩, .string ⟨(Lib.cut s.data.toList [c]).2.1.toArray⟩, .bool (Lib.cut s.data.toList [c]).2.2]) ∧ ∃ n, w' = w.drewN n := by
  rcases Lib.indexB_cases s ⟨#[c]⟩ with hix | ⟨i, hix, hroom⟩
  · obtain ⟨e1, e2, e3⟩ := Lib.cutB_miss s ⟨#[c]⟩ hix
    have hix' : Lib.indexByte s.data.toList c = -1 := by rw [← index_one]; exact hix
    rw [show (⟨(Lib.cut s.data.toList [c]).1.toArray⟩ : ByteArray) = _ from e1, show (⟨(Lib.cut s.data.toList [c]).2.1.toArray⟩ : ByteArray) = _ from e2, show (Lib.cut s.data.toList [c]).2.2 = _ from e3]
    have t3 := L.t3; have t4 := L.t4; have t9 := L.t9
    have a3 : ∀ w, (isAgg (ρ.t 3)).run P w = .ok false w := run_isAgg_plain L.t3 rfl; have a4 : ∀ w, (isAgg (ρ.t 4)).run P w = .ok false w := run_isAgg_plain L.t4 rfl; have a9 : ∀ w, (isAgg (ρ.t 9)).run P w = .ok false w := run_isAgg_plain L.t9 rfl
    have e219 : ∀ args w, (callFunc (ρ.f 219) args).run P w = .ok (.enter (ρ.f 219) args) w := enters_of L.f219 (by kernel_rfl) rfl
    have mixed := L.mixed; have z3 := L.z3; have v3 := L.v3; have z4 := L.z4; have v4 := L.v4; have z9 := L.z9; have v9 := L.v9
    go_enter L.f220, Body.n220_ntmps ρ
    go_wp2_with (go_at_fn (ρ.f 219); refine (Any.stringslite_Index_one { L with } _ _ _).mono ?_; rintro e w' ⟨rfl, rfl⟩; rw [hix'])
    go_ret3
    exact ⟨rfl, 0, rfl⟩
  · obtain ⟨e1, e2, e3⟩ := Lib.cutB_hit s ⟨#[c]⟩ i hix
    have hix' : Lib.indexByte s.data.toList c = i := by rw [← index_one]; exact hix
    have hs1 : (ByteArray.mk #[c]).size = 1 := rfl
    rw [show (⟨(Lib.cut s.data.toList [c]).1.toArray⟩ : ByteArray) = _ from e1, show (⟨(Lib.cut s.data.toList [c]).2.1.toArray⟩ : ByteArray) = _ from e2, show (Lib.cut s.data.toList [c]).2.2 = _ from e3]
    have c1 : (0 : Int) ≤ ↑i := by omega
    have c2 : (↑i : Int) ≤ ↑s.size := by omega
    have c3 : (0 : Int) ≤ ↑i + ↑(ByteArray.mk #[c]).size := by omega
    have c4 : (↑i + ↑(ByteArray.mk #[c]).size : Int) ≤ ↑s.size := by omega
    have t3 := L.t3; have t4 := L.t4; have t9 := L.t9
    have a3 : ∀ w, (isAgg (ρ.t 3)).run P w = .ok false w := run_isAgg_plain L.t3 rfl; have a4 : ∀ w, (isAgg (ρ.t 4)).run P w = .ok false w := run_isAgg_plain L.t4 rfl; have a9 : ∀ w, (isAgg (ρ.t 9)).run P w = .ok false w := run_isAgg_plain L.t9 rfl
    have e219 : ∀ args w, (callFunc (ρ.f 219) args).run P w = .ok (.enter (ρ.f 219) args) w := enters_of L.f219 (by kernel_rfl) rfl
    have mixed := L.mixed; have z3 := L.z3; have v3 := L.v3; have z4 := L.z4; have v4 := L.v4; have z9 := L.z9; have v9 := L.v9
    have hidx := fun w => Any.stringslite_Index_one (P := P) (ρ := ρ) { L with } s c w
    rw [hix'] at hidx
    obtain ⟨sep, hsep⟩ : ∃ sep : ByteArray, sep = ⟨#[c]⟩ := ⟨_, rfl⟩
    rw [← hsep] at hidx c3 c4 ⊢
    clear hsep hix hroom e1 e2 e3 hs1
    go_enter L.f220, Body.n220_ntmps ρ
    go_wp2_with (go_at_fn (ρ.f 219); refine (hidx _).mono ?_; rintro e w' ⟨rfl, rfl⟩)
    go_region_o
    go_wp2
    go_ret3
    exact ⟨rfl, 1, rfl⟩
set_option maxHeartbeats 1000000 in
theorem cut_outer (L : Lays.n145 P ρ) (s : ByteArray) (c : UInt8) (hs : s.size ≤ 9223372036854775807) (w : World) :
    Calls P (ρ.f 145) #[.string s, .string ⟨#[c]⟩] w fun e w' => e = .returned (.tuple #[.string ⟨(Lib.cut s.data.toList [c]).1.toArray⟩, .string ⟨(Lib.cut s.data.toList [c]).2.1.toArray⟩, .bool (Lib.cut s.data.toList [c]).2.2]) ∧ ∃ n, w' = w.drewN n := by
  have t4 := L.t4; have t9 := L.t9; have t59 := L.t59
  have a4 : ∀ w, (isAgg (ρ.t 4)).run P w = .ok false w := run_isAgg_plain L.t4 rfl; have a9 : ∀ w, (isAgg (ρ.t 9)).run P w = .ok false w := run_isAgg_plain L.t9 rfl; have a59 : ∀ w, (isAgg (ρ.t 59)).run P w = .ok false w := run_isAgg_plain L.t59 rfl
  have e220 : ∀ args w, (callFunc (ρ.f 220) args).run P w = .ok (.enter (ρ.f 220) args) w := enters_of L.f220 (by kernel_rfl) rfl
  have mixed := L.mixed; have z4 := L.z4; have v4 := L.v4; have z9 := L.z9; have v9 := L.v9; have z59 := L.z59; have v59 := L.v59
  have hidx := fun w => cut_inner (P := P) (ρ := ρ) { L with } s c hs w
  obtain ⟨sep, hsep⟩ : ∃ sep : ByteArray, sep = ⟨#[c]⟩ := ⟨_, rfl⟩
  rw [← hsep] at hidx ⊢
  clear hsep
  go_enter L.f145, Body.n145_ntmps ρ
  go_wp2_with (go_at_fn (ρ.f 220); refine (hidx _).mono ?_; rintro e w' ⟨rfl, n, rfl⟩)
  go_ret3
  exact ⟨rfl, n, rfl⟩
theorem index_le (s sub : List UInt8) : Lib.index s sub ≤ s.length := by
  induction s with
  | nil => unfold Lib.index; split <;> simp
  | cons b l ih => unfold Lib.index; rw [List.length_cons]; repeat' split <;> omega
theorem cutL_len (s sep : List UInt8) : (Lib.cut s sep).1.length ≤ s.length ∧ (Lib.cut s sep).2.1.length ≤ s.length := by
  unfold Lib.cut
  split
  · exact ⟨by simp; omega, by simp⟩
  · exact ⟨Nat.le_refl _, Nat.zero_le _⟩
theorem drewN_below (w : World) (n : Nat) : Below w.heap.size w (w.drewN n) := ⟨rfl, rfl, rfl, Nat.le_refl _, fun _ _ => rfl⟩
theorem cut_contract (L : Lays.n145 P ρ) (hf : ∃ fn, P.funcs[ρ.f 145]? = some fn ∧ (fn.name == "runtime.NumGoroutine") = false ∧ fn.body.isSome = true) (s sep : ByteArray) (h1 : sep.size = 1) :
    FnOk P (ρ.f 145) [.one (.v (.string s)), .one (.v (.string sep))] ⟨.tup [.one (.v (.string (cutS s sep).1)), .one (.v (.string (cutS s sep).2.1)), .one (.v (.bool (cutS s sep).2.2))], [], [], false⟩ := by
  obtain ⟨⟨l⟩⟩ := sep
  match l, h1 with
  | [c], _ =>
  refine FnOk.ofCallsN (xs := [.string s, .string ⟨#[c]⟩]) (r := .tuple #[.string (cutS s ⟨#[c]⟩).1, .string (cutS s ⟨#[c]⟩).2.1, .bool (cutS s ⟨#[c]⟩).2.2]) hf (fun hx => ⟨rfl, fun j a u ha hu => ?_⟩) (fun w A hx hG => ?_)
  · have hs := fit_size (hx (.string s) (by simp))
    have h2 := cutL_len s.data.toList [c]
    have fs : ∀ l : List UInt8, l.length ≤ s.data.toList.length → fit (.string ⟨l.toArray⟩) = true := fun l hl => Nat.ble_eq_true_of_le (by simp only [ByteArray.size, List.size_toArray]; omega)
    match j, ha, hu with
    | 0, rfl, rfl => exact ⟨_, rfl, rfl, fs _ h2.1⟩
    | 1, rfl, rfl => exact ⟨_, rfl, rfl, fs _ h2.2⟩
    | 2, rfl, rfl => exact ⟨_, rfl, rfl, rfl⟩
  · refine (cut_outer L s c (by have := Nat.le_of_ble_eq_true (show Nat.ble s.size 9223372036854775807 = true from hx (.string s) (by simp)); exact this) w).mono ?_
    rintro e w' ⟨rfl, n, rfl⟩
    exact ⟨rfl, drewN_below w n⟩
end Go.Ev
namespace Go.Ev
open Go Go.Proofs Go.Shelf Go.RowKit Go.Lib
theorem cutS_size (s t : ByteArray) : (cutS s t).1.size ≤ s.size ∧ (cutS s t).2.1.size ≤ s.size := by
  have h := cutL_len s.data.toList t.data.toList
  have e : s.data.toList.length = s.size := by rw [Array.length_toList]; rfl
  rw [e] at h
  exact ⟨by show (Lib.cut s.data.toList t.data.toList).1.toArray.size ≤ _; rw [List.size_toArray]; exact h.1, by show (Lib.cut s.data.toList t.data.toList).2.1.toArray.size ≤ _; rw [List.size_toArray]; exact h.2⟩
theorem indexByteS_le (s : ByteArray) (c : Int) : -1 ≤ indexByteS s c ∧ indexByteS s c ≤ ((s.size : Nat) : Int) := by
  refine ⟨Lib.indexByte_ge _ _, ?_⟩
  have := index_le s.data.toList [c.toNat.toUInt8]
  rw [index_one] at this
  have e : s.data.toList.length = s.size := by rw [Array.length_toList]; rfl
  rw [e] at this
  exact this
end Go.Ev
