import Derived.Test.YtepchngnmfbffaaLBoundWalkB
set_option linter.unusedSectionVars false

namespace Go.Proofs.Try.Ev
open Go Go.Ev Go.Proofs
set_option maxHeartbeats 4000000
set_option maxRecDepth 100000
set_option linter.unusedSimpArgs false
set_option linter.unusedVariables false
theorem shape181 (n : Nat) {l : List T} (h : Shape prog n 181 l) : ∃ x : Stripe, l = (Stripe.cells false) x ∧ Stripe.bd 9223372036854775807 x := by
  cases n with
  | zero => exact (h : False).elim
  | succ n =>
    unfold Shape at h
    rw [underlying181] at h
    simp only [ShapeL] at h
    obtain ⟨_, _, rfl, h0, _, _, rfl, h1, rfl⟩ := h
    obtain ⟨x0, rfl, w0⟩ := shape3 n h0
    obtain ⟨x1, rfl, w1⟩ := shape67 n h1
    exact ⟨⟨x0, x1⟩, rfl, w1⟩
theorem shape27 (n : Nat) {l : List T} (h : Shape prog n 27 l) : ∃ x : (List Stripe), l = [.s false 2 (List.map (Stripe.cells false) x)] ∧ bdS Stripe.bd 9223372036854775807 x := by
  cases n with
  | zero => exact (h : False).elim
  | succ n =>
    exact shape_sl (Stripe.cells false) (P := Stripe.bd) _ rfl underlying27 (by kernel_rfl) h (fun r hr => shape181 n hr)
theorem shape29 (n : Nat) {l : List T} (h : Shape prog n 29 l) : ∃ x : Bucket, l = Bucket.cells x ∧ True := by
  cases n with
  | zero => exact (h : False).elim
  | succ n =>
    unfold Shape at h
    rw [underlying29] at h
    simp only [ShapeL] at h
    obtain ⟨_, _, rfl, h0, _, _, rfl, h1, _, _, rfl, h2, _, _, rfl, h3, rfl⟩ := h
    obtain ⟨x0, rfl, w0⟩ := shape3 n h0
    obtain ⟨x1, rfl, w1⟩ := shape3 n h1
    obtain ⟨x2, rfl, w2⟩ := shape3 n h2
    obtain ⟨x3, rfl, w3⟩ := shape3 n h3
    exact ⟨⟨x0, x1, x2, x3⟩, rfl, trivial⟩
theorem shape193 (n : Nat) {l : List T} (h : Shape prog n 193 l) : ∃ x : Verdict, l = Verdict.cells x ∧ True := by
  cases n with
  | zero => exact (h : False).elim
  | succ n =>
    unfold Shape at h
    rw [underlying193] at h
    simp only [ShapeL] at h
    obtain ⟨_, _, rfl, h0, _, _, rfl, h1, _, _, rfl, h2, rfl⟩ := h
    obtain ⟨x0, rfl, w0⟩ := shape3 n h0
    obtain ⟨x1, rfl, w1⟩ := shape3 n h1
    obtain ⟨x2, rfl, w2⟩ := shape4 n h2
    exact ⟨⟨x0, x1, x2⟩, rfl, trivial⟩
theorem shape30 (n : Nat) {l : List T} (h : Shape prog n 30 l) : ∃ x : (List Verdict), l = [.s false 3 (List.map Verdict.cells x)] ∧ bdS Verdict.bd 9223372036854775807 x := by
  cases n with
  | zero => exact (h : False).elim
  | succ n =>
    exact shape_sl Verdict.cells (P := Verdict.bd) _ rfl underlying30 (by kernel_rfl) h (fun r hr => shape193 n hr)
theorem shape198 (n : Nat) {l : List T} (h : Shape prog n 198 l) : ∃ x : Timer, l = Timer.cells x ∧ True := by
  cases n with
  | zero => exact (h : False).elim
  | succ n =>
    unfold Shape at h
    rw [underlying198] at h
    simp only [ShapeL] at h
    obtain ⟨_, _, rfl, h0, _, _, rfl, h1, _, _, rfl, h2, rfl⟩ := h
    obtain ⟨x0, rfl, w0⟩ := shape3 n h0
    obtain ⟨x1, rfl, w1⟩ := shape3 n h1
    obtain ⟨x2, rfl, w2⟩ := shape3 n h2
    exact ⟨⟨x0, x1, x2⟩, rfl, trivial⟩
theorem shape32 (n : Nat) {l : List T} (h : Shape prog n 32 l) : ∃ x : (List Timer), l = [.s false 3 (List.map Timer.cells x)] ∧ bdS Timer.bd 9223372036854775807 x := by
  cases n with
  | zero => exact (h : False).elim
  | succ n =>
    exact shape_sl Timer.cells (P := Timer.bd) _ rfl underlying32 (by kernel_rfl) h (fun r hr => shape198 n hr)
theorem shape31 (n : Nat) {l : List T} (h : Shape prog n 31 l) : ∃ x : (List (List Timer)), l = [.s false 1 (List.map (cSl false 3 Timer.cells) x)] ∧ bdS (bdS Timer.bd) 9223372036854775807 x := by
  cases n with
  | zero => exact (h : False).elim
  | succ n =>
    exact shape_sl (cSl false 3 Timer.cells) (P := (bdS Timer.bd)) _ rfl underlying31 (by kernel_rfl) h (fun r hr => shape32 n hr)
theorem shape34 (n : Nat) {l : List T} (h : Shape prog n 34 l) : ∃ x : Wheel, l = (Wheel.cells false) x ∧ Wheel.bd 9223372036854775807 x := by
  cases n with
  | zero => exact (h : False).elim
  | succ n =>
    unfold Shape at h
    rw [underlying34] at h
    simp only [ShapeL] at h
    obtain ⟨_, _, rfl, h0, _, _, rfl, h1, _, _, rfl, h2, _, _, rfl, h3, rfl⟩ := h
    obtain ⟨x0, rfl, w0⟩ := shape3 n h0
    obtain ⟨x1, rfl, w1⟩ := shape31 n h1
    obtain ⟨x2, rfl, w2⟩ := shape31 n h2
    obtain ⟨x3, rfl, w3⟩ := shape32 n h3
    exact ⟨⟨x0, x1, x2, x3⟩, rfl, ⟨w1, w2, w3⟩⟩
theorem shape185 (n : Nat) {l : List T} (h : Shape prog n 185 l) : ∃ x : Item, l = (Item.cells false) x ∧ Item.bd 9223372036854775807 x := by
  cases n with
  | zero => exact (h : False).elim
  | succ n =>
    unfold Shape at h
    rw [underlying185] at h
    simp only [ShapeL] at h
    obtain ⟨_, _, rfl, h0, _, _, rfl, h1, rfl⟩ := h
    obtain ⟨x0, rfl, w0⟩ := shape3 n h0
    obtain ⟨x1, rfl, w1⟩ := shape152 n h1
    exact ⟨⟨x0, x1⟩, rfl, w1⟩
theorem shape35 (n : Nat) {l : List T} (h : Shape prog n 35 l) : ∃ x : (List Item), l = [.s false 7 (List.map (Item.cells false) x)] ∧ bdS Item.bd 9223372036854775807 x := by
  cases n with
  | zero => exact (h : False).elim
  | succ n =>
    exact shape_sl (Item.cells false) (P := Item.bd) _ rfl underlying35 (by kernel_rfl) h (fun r hr => shape185 n hr)
theorem shape188 (n : Nat) {l : List T} (h : Shape prog n 188 l) : ∃ x : Task, l = (Task.cells false) x ∧ Task.bd 9223372036854775807 x := by
  cases n with
  | zero => exact (h : False).elim
  | succ n =>
    unfold Shape at h
    rw [underlying188] at h
    simp only [ShapeL] at h
    obtain ⟨_, _, rfl, h0, _, _, rfl, h1, _, _, rfl, h2, _, _, rfl, h3, _, _, rfl, h4, _, _, rfl, h5, _, _, rfl, h6, rfl⟩ := h
    obtain ⟨x0, rfl, w0⟩ := shape3 n h0
    obtain ⟨x1, rfl, w1⟩ := shape3 n h1
    obtain ⟨x2, rfl, w2⟩ := shape152 n h2
    obtain ⟨x3, rfl, w3⟩ := shape3 n h3
    obtain ⟨x4, rfl, w4⟩ := shape3 n h4
    obtain ⟨x5, rfl, w5⟩ := shape35 n h5
    obtain ⟨x6, rfl, w6⟩ := shape3 n h6
    exact ⟨⟨x0, x1, x2, x3, x4, x5, x6⟩, rfl, ⟨w2, w5⟩⟩
theorem shape36 (n : Nat) {l : List T} (h : Shape prog n 36 l) : ∃ x : (List Task), l = [.s false 12 (List.map (Task.cells false) x)] ∧ bdS Task.bd 9223372036854775807 x := by
  cases n with
  | zero => exact (h : False).elim
  | succ n =>
    exact shape_sl (Task.cells false) (P := Task.bd) _ rfl underlying36 (by kernel_rfl) h (fun r hr => shape188 n hr)
theorem shape154 (n : Nat) {l : List T} (h : Shape prog n 154 l) : ∃ x : Deed, l = (Deed.cells false) x ∧ Deed.bd 9223372036854775807 x := by
  cases n with
  | zero => exact (h : False).elim
  | succ n =>
    unfold Shape at h
    rw [underlying154] at h
    simp only [ShapeL] at h
    obtain ⟨_, _, rfl, h0, _, _, rfl, h1, _, _, rfl, h2, _, _, rfl, h3, _, _, rfl, h4, _, _, rfl, h5, _, _, rfl, h6, _, _, rfl, h7, _, _, rfl, h8, _, _, rfl, h9, _, _, rfl, h10, _, _, rfl, h11, _, _, rfl, h12, _, _, rfl, h13, _, _, rfl, h14, rfl⟩ := h
    obtain ⟨x0, rfl, w0⟩ := shape3 n h0
    obtain ⟨x1, rfl, w1⟩ := shape3 n h1
    obtain ⟨x2, rfl, w2⟩ := shape152 n h2
    obtain ⟨x3, rfl, w3⟩ := shape3 n h3
    obtain ⟨x4, rfl, w4⟩ := shape3 n h4
    obtain ⟨x5, rfl, w5⟩ := shape3 n h5
    obtain ⟨x6, rfl, w6⟩ := shape4 n h6
    obtain ⟨x7, rfl, w7⟩ := shape4 n h7
    obtain ⟨x8, rfl, w8⟩ := shape3 n h8
    obtain ⟨x9, rfl, w9⟩ := shape3 n h9
    obtain ⟨x10, rfl, w10⟩ := shape3 n h10
    obtain ⟨x11, rfl, w11⟩ := shape3 n h11
    obtain ⟨x12, rfl, w12⟩ := shape3 n h12
    obtain ⟨x13, rfl, w13⟩ := shape3 n h13
    obtain ⟨x14, rfl, w14⟩ := shape3 n h14
    exact ⟨⟨x0, x1, x2, x3, x4, x5, x6, x7, x8, x9, x10, x11, x12, x13, x14⟩, rfl, w2⟩
theorem shape37 (n : Nat) {l : List T} (h : Shape prog n 37 l) : ∃ x : (List Deed), l = [.s false 20 (List.map (Deed.cells false) x)] ∧ bdS Deed.bd 9223372036854775807 x := by
  cases n with
  | zero => exact (h : False).elim
  | succ n =>
    exact shape_sl (Deed.cells false) (P := Deed.bd) _ rfl underlying37 (by kernel_rfl) h (fun r hr => shape154 n hr)
theorem shape39 (n : Nat) {l : List T} (h : Shape prog n 39 l) : ∃ x : World, l = (World.cells false) x ∧ World.bd 9223372036854775807 x := by
  cases n with
  | zero => exact (h : False).elim
  | succ n =>
    unfold Shape at h
    rw [underlying39] at h
    simp only [ShapeL] at h
    obtain ⟨_, _, rfl, h0, _, _, rfl, h1, _, _, rfl, h2, _, _, rfl, h3, _, _, rfl, h4, _, _, rfl, h5, _, _, rfl, h6, _, _, rfl, h7, _, _, rfl, h8, _, _, rfl, h9, _, _, rfl, h10, _, _, rfl, h11, _, _, rfl, h12, _, _, rfl, h13, _, _, rfl, h14, rfl⟩ := h
    obtain ⟨x0, rfl, w0⟩ := shape26 n h0
    obtain ⟨x1, rfl, w1⟩ := shape3 n h1
    obtain ⟨x2, rfl, w2⟩ := shape4 n h2
    obtain ⟨x3, rfl, w3⟩ := shape27 n h3
    obtain ⟨x4, rfl, w4⟩ := shape3 n h4
    obtain ⟨x5, rfl, w5⟩ := shape29 n h5
    obtain ⟨x6, rfl, w6⟩ := shape30 n h6
    obtain ⟨x7, rfl, w7⟩ := shape3 n h7
    obtain ⟨x8, rfl, w8⟩ := shape34 n h8
    obtain ⟨x9, rfl, w9⟩ := shape32 n h9
    obtain ⟨x10, rfl, w10⟩ := shape35 n h10
    obtain ⟨x11, rfl, w11⟩ := shape35 n h11
    obtain ⟨x12, rfl, w12⟩ := shape36 n h12
    obtain ⟨x13, rfl, w13⟩ := shape37 n h13
    obtain ⟨x14, rfl, w14⟩ := shape3 n h14
    exact ⟨⟨x0, x1, x2, x3, x4, x5, x6, x7, x8, x9, x10, x11, x12, x13, x14⟩, rfl, ⟨w0, w3, w6, w8, w9, w10, w11, w12, w13⟩⟩
theorem arg39 {n : Nat} {l : List T} (h : Shape prog n 39 l) : ∃ x : World, l = (World.cells false) x ∧ World.bd 9223372036854775807 x := shape39 n h
theorem law_c (p0 : World) (h0 : World.bd 9223372036854775807 p0) : FnOk prog 6 [.agg ((World.cells false) p0)] ⟨.one (.v (.bool true)), [], [], false⟩ :=
  FnOk.fits ⟨_, func6, by kernel_rfl, by kernel_rfl⟩ (fun hf => by
    have h := c_laws_FnExactBound p0 h0
    rw [law_Bound p0 h0] at h
    exact h)

end Go.Proofs.Try.Ev
