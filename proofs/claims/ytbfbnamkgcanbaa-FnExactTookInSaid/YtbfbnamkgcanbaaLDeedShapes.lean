/- The shapes of deeds, as they are handed in. -/
import Derived.Test.YtbfbnamkgcanbaaLDeedLaws
namespace Go.Proofs.Try.Ev
open Go Go.Proofs Go.Ev
set_option maxRecDepth 100000
set_option linter.unusedSimpArgs false
set_option linter.unusedVariables false
theorem rows_wf {α : Type} (f : α → List T) (W : α → Prop) : ∀ rows : List (List T), (∀ r ∈ rows, ∃ x, r = f x ∧ W x) → ∃ l : List α, rows = l.map f ∧ ∀ x ∈ l, W x
  | [], _ => ⟨[], rfl, by simp⟩
  | r :: rows, h => by
    obtain ⟨x, hx, hw⟩ := h r (by simp)
    obtain ⟨l, hl, hw'⟩ := rows_wf f W rows (fun r hr => h r (by simp [hr]))
    exact ⟨x :: l, by simp [hx, hl], fun y hy => by rcases List.mem_cons.1 hy with rfl | hy; exact hw; exact hw' y hy⟩
theorem shape_slice {α : Type} (f : α → List T) (W : α → Prop) {n t e k : Nat} (ht : prog.underlying t = some (.slice e)) (hk : prog.cellsOf e = k) {y : List T} (h : Shape prog (n + 1) t y) (hr : ∀ r, Shape prog n e r → ∃ x, r = f x ∧ W x) :
    ∃ l : List α, y = [.s false k (l.map f)] ∧ wfS W l := by
  unfold Shape at h
  rw [ht] at h
  obtain ⟨rows, h1, h2, h3⟩ := h
  rw [hk] at h1
  obtain ⟨l, rfl, hw⟩ := rows_wf f W rows (fun r hr' => hr r (h3 r hr').2)
  exact ⟨l, h1, by simpa [maxLen] using h2, hw⟩
theorem shapeInt {y : T} (h : Shape prog 20 3 [y]) : ∃ n : Int, y = .v (.int .i64 n) := by
  simp only [Shape, underlying3] at h
  obtain ⟨x, hx, _⟩ := h
  exact ⟨x, by simpa using hx⟩
theorem shape107 {n : Nat} {l : List T} (h : Shape prog (n + 2) 107 l) : ∃ x : Attr, l = x.cells false false ∧ x.wf := by
  simp only [Shape, underlying107, underlying3, underlying4, underlying9, ShapeL] at h
  obtain ⟨_, _, rfl, ⟨a, rfl, ha⟩, _, _, rfl, ⟨b, rfl⟩, _, _, rfl, ⟨c, rfl, hc⟩, _, _, rfl, ⟨d, rfl, hd⟩, rfl⟩ := h
  exact ⟨⟨a, b, c, d⟩, rfl, by simpa [maxLen] using ha, by simpa [maxLen] using hd⟩
theorem shape77 {n : Nat} {l : List T} (h : Shape prog (n + 4) 77 l) : ∃ x : Span, l = x.cells false false ∧ x.wf := by
  unfold Shape at h
  rw [underlying77] at h
  have hS : ∀ l, Shape prog (n + 3) 75 l → ∃ a : List Attr, l = [.s false 4 (a.map (Attr.cells false false))] ∧ wfS Attr.wf a := fun l hl => shape_slice _ _ underlying75 (by kernel_rfl) hl (fun r hr => shape107 hr)
  have hI : ∀ l, Shape prog (n + 3) 3 l → ∃ x : Int, l = [.v (.int .i64 x)] := fun l hl => by
    simp only [Shape, underlying3] at hl
    obtain ⟨x, hx, _⟩ := hl
    exact ⟨x, hx⟩
  have hB : ∀ l, Shape prog (n + 3) 4 l → ∃ x : Bool, l = [.v (.bool x)] := fun l hl => by
    simp only [Shape, underlying4] at hl
    exact hl
  simp only [ShapeL] at h
  obtain ⟨_, _, rfl, h1, _, _, rfl, h2, _, _, rfl, h3, _, _, rfl, h4, _, _, rfl, h5, _, _, rfl, h6, rfl⟩ := h
  obtain ⟨x1, rfl⟩ := hI _ h1
  obtain ⟨x2, rfl⟩ := hI _ h2
  obtain ⟨x3, rfl⟩ := hI _ h3
  obtain ⟨x4, rfl⟩ := hI _ h4
  obtain ⟨x5, rfl⟩ := hB _ h5
  obtain ⟨x6, rfl, hw⟩ := hS _ h6
  exact ⟨⟨x1, x2, x3, x4, x5, x6⟩, rfl, hw⟩
theorem shape81 {n : Nat} {l : List T} (h : Shape prog (n + 5) 81 l) : ∃ x : Deed, l = x.cells false false ∧ x.wf := by
  unfold Shape at h
  rw [underlying81] at h
  have hI : ∀ l, Shape prog (n + 4) 3 l → ∃ x : Int, l = [.v (.int .i64 x)] := fun l hl => by
    simp only [Shape, underlying3] at hl
    obtain ⟨x, hx, _⟩ := hl
    exact ⟨x, hx⟩
  have hB : ∀ l, Shape prog (n + 4) 4 l → ∃ x : Bool, l = [.v (.bool x)] := fun l hl => by
    simp only [Shape, underlying4] at hl
    exact hl
  simp only [ShapeL] at h
  obtain ⟨_, _, rfl, h1, _, _, rfl, h2, _, _, rfl, h3, _, _, rfl, h4, _, _, rfl, h5, _, _, rfl, h6, _, _, rfl, h7, _, _, rfl, h8, _, _, rfl, h9, _, _, rfl, h10, _, _, rfl, h11, _, _, rfl, h12, _, _, rfl, h13, _, _, rfl, h14, _, _, rfl, h15, rfl⟩ := h
  obtain ⟨x1, rfl⟩ := hI _ h1
  obtain ⟨x2, rfl⟩ := hI _ h2
  obtain ⟨x3, rfl, hw⟩ := shape77 h3
  obtain ⟨x4, rfl⟩ := hI _ h4
  obtain ⟨x5, rfl⟩ := hI _ h5
  obtain ⟨x6, rfl⟩ := hI _ h6
  obtain ⟨x7, rfl⟩ := hB _ h7
  obtain ⟨x8, rfl⟩ := hB _ h8
  obtain ⟨x9, rfl⟩ := hI _ h9
  obtain ⟨x10, rfl⟩ := hI _ h10
  obtain ⟨x11, rfl⟩ := hI _ h11
  obtain ⟨x12, rfl⟩ := hI _ h12
  obtain ⟨x13, rfl⟩ := hI _ h13
  obtain ⟨x14, rfl⟩ := hI _ h14
  obtain ⟨x15, rfl⟩ := hI _ h15
  exact ⟨⟨x1, x2, x3, x4, x5, x6, x7, x8, x9, x10, x11, x12, x13, x14, x15⟩, rfl, hw⟩
theorem shapeDeedS {y : T} (h : Shape prog 20 47 [y]) : ∃ l : List Deed, y = .s false 20 (l.map (Deed.cells false false)) ∧ wfS Deed.wf l := by
  obtain ⟨l, hl, hw⟩ := shape_slice (Deed.cells false false) Deed.wf underlying47 (by kernel_rfl) h (fun r hr => shape81 hr)
  exact ⟨l, by simpa using hl, hw⟩
end Go.Proofs.Try.Ev
