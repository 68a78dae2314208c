/- Loops: plain ones, and how the machine's go by them. -/
import Derived.Test.YtjpgineaoghoeaaDoorEvW
set_option linter.unusedSectionVars false
set_option linter.unusedVariables false
set_option linter.unusedSimpArgs false
namespace Go.Ev
open Go

/-- What a round ends in: the next round, the end of the loop, or the end of all. -/
inductive Step (σ ρ : Type) where
  | next (s : σ)
  | stop (s : σ)
  | done (r : ρ)

def Step.st {σ ρ : Type} (d : σ) : Step σ ρ → σ
  | .next s => s
  | .stop s => s
  | .done _ => d
def Step.isNext {σ ρ : Type} : Step σ ρ → Bool
  | .next _ => true
  | _ => false
theorem Step.of_next {σ ρ : Type} {d : σ} {x : Step σ ρ} (h : x.isNext = true) : x = .next (x.st d) := by cases x <;> first | rfl | cases h

/-- What a loop ends in: it ends, or all does. -/
inductive Fin (σ ρ : Type) where
  | fin (s : σ)
  | done (r : ρ)
def Step.fin {σ ρ : Type} : Step σ ρ → Fin σ ρ
  | .next s => .fin s
  | .stop s => .fin s
  | .done r => .done r
theorem Step.fin_stop {σ ρ : Type} (s : σ) : (Step.stop s : Step σ ρ).fin = .fin s := rfl
theorem Step.fin_done {σ ρ : Type} (r : ρ) : (Step.done r : Step σ ρ).fin = .done r := rfl
theorem Step.fin_next {σ ρ : Type} (s : σ) : (Step.next s : Step σ ρ).fin = .fin s := rfl
def Fin.get {σ ρ : Type} (k : σ → ρ) : Fin σ ρ → ρ
  | .fin s => k s
  | .done r => r
theorem Fin.get_fin {σ ρ : Type} (k : σ → ρ) (s : σ) : (Fin.fin s : Fin σ ρ).get k = k s := rfl
theorem Fin.get_done {σ ρ : Type} (k : σ → ρ) (r : ρ) : (Fin.done r : Fin σ ρ).get k = r := rfl
/-- Over a list. -/
def loopL {α σ ρ : Type} (f : Nat → σ → α → Step σ ρ) : Nat → σ → List α → Fin σ ρ
  | _, s, [] => .fin s
  | i, s, a :: l => match f i s a with
    | .next s' => loopL f (i + 1) s' l
    | x => x.fin
/-- A number of times. -/
def loopC {σ ρ : Type} (f : Nat → σ → Step σ ρ) : Nat → σ → Nat → Fin σ ρ
  | _, s, 0 => .fin s
  | i, s, n + 1 => match f i s with
    | .next s' => loopC f (i + 1) s' n
    | x => x.fin
/-- Till it ends by itself; so many rounds at most. -/
def loopW {σ ρ : Type} (f : σ → Step σ ρ) : Nat → σ → Fin σ ρ
  | 0, s => (f s).fin
  | n + 1, s => match f s with
    | .next s' => loopW f n s'
    | x => x.fin

structure LstSt {α σ ρ : Type} (f : Nat → σ → α → Step σ ρ) (s0 : σ) (l : List α) where
  i : Nat
  h : i ≤ l.length
  s : σ
  e : loopL f i s (l.drop i) = loopL f 0 s0 l
def LstSt.init {α σ ρ : Type} {f : Nat → σ → α → Step σ ρ} {s0 : σ} {l : List α} : LstSt f s0 l := ⟨0, Nat.zero_le _, s0, rfl⟩
theorem LstSt.unf {α σ ρ : Type} {f : Nat → σ → α → Step σ ρ} {s0 : σ} {l : List α} (x : LstSt f s0 l) (hi : x.i < l.length) : loopL f 0 s0 l = match f x.i x.s l[x.i] with | .next s' => loopL f (x.i + 1) s' (l.drop (x.i + 1)) | y => y.fin := by
  have := x.e
  rw [List.drop_eq_getElem_cons hi, loopL] at this
  exact this.symm
def LstSt.nxt {α σ ρ : Type} {f : Nat → σ → α → Step σ ρ} {s0 : σ} {l : List α} (x : LstSt f s0 l) (hi : x.i < l.length) (hn : (f x.i x.s l[x.i]).isNext = true) : LstSt f s0 l :=
  ⟨x.i + 1, hi, (f x.i x.s l[x.i]).st x.s, by
    have := x.unf hi
    rw [Step.of_next (d := x.s) hn] at this
    exact this.symm⟩
theorem LstSt.nxt_i {α σ ρ : Type} {f : Nat → σ → α → Step σ ρ} {s0 : σ} {l : List α} (x : LstSt f s0 l) (hi : x.i < l.length) (hn : (f x.i x.s l[x.i]).isNext = true) : (x.nxt hi hn).i = x.i + 1 := rfl
theorem LstSt.nxt_s {α σ ρ : Type} {f : Nat → σ → α → Step σ ρ} {s0 : σ} {l : List α} (x : LstSt f s0 l) (hi : x.i < l.length) (hn : (f x.i x.s l[x.i]).isNext = true) : (x.nxt hi hn).s = (f x.i x.s l[x.i]).st x.s := rfl
theorem LstSt.fin {α σ ρ : Type} {f : Nat → σ → α → Step σ ρ} {s0 : σ} {l : List α} (x : LstSt f s0 l) (hi : ¬ x.i < l.length) : loopL f 0 s0 l = .fin x.s := by
  have := x.e
  rw [List.drop_eq_nil_of_le (by omega)] at this
  exact this.symm
theorem LstSt.brk {α σ ρ : Type} {f : Nat → σ → α → Step σ ρ} {s0 : σ} {l : List α} (x : LstSt f s0 l) (hi : x.i < l.length) {y : Step σ ρ} (hy : f x.i x.s l[x.i] = y) (hn : y.isNext = false) : loopL f 0 s0 l = y.fin := by
  rw [x.unf hi, hy]
  cases y <;> first | rfl | cases hn

theorem LstSt.out {α σ ρ : Type} {f : Nat → σ → α → Step σ ρ} {s0 : σ} {l : List α} (x : LstSt f s0 l) (hi : x.i < l.length) (hn : (f x.i x.s l[x.i]).isNext = false) : loopL f 0 s0 l = (f x.i x.s l[x.i]).fin := x.brk hi rfl hn
structure CntSt {σ ρ : Type} (f : Nat → σ → Step σ ρ) (s0 : σ) (n : Nat) where
  i : Nat
  h : i ≤ n
  s : σ
  e : loopC f i s (n - i) = loopC f 0 s0 n
def CntSt.init {σ ρ : Type} {f : Nat → σ → Step σ ρ} {s0 : σ} {n : Nat} : CntSt f s0 n := ⟨0, Nat.zero_le _, s0, rfl⟩
theorem CntSt.unf {σ ρ : Type} {f : Nat → σ → Step σ ρ} {s0 : σ} {n : Nat} (x : CntSt f s0 n) (hi : x.i < n) : loopC f 0 s0 n = match f x.i x.s with | .next s' => loopC f (x.i + 1) s' (n - (x.i + 1)) | y => y.fin := by
  have := x.e
  rw [show n - x.i = (n - (x.i + 1)) + 1 by omega, loopC] at this
  exact this.symm
def CntSt.nxt {σ ρ : Type} {f : Nat → σ → Step σ ρ} {s0 : σ} {n : Nat} (x : CntSt f s0 n) (hi : x.i < n) (hn : (f x.i x.s).isNext = true) : CntSt f s0 n :=
  ⟨x.i + 1, hi, (f x.i x.s).st x.s, by
    have := x.unf hi
    rw [Step.of_next (d := x.s) hn] at this
    exact this.symm⟩
theorem CntSt.nxt_i {σ ρ : Type} {f : Nat → σ → Step σ ρ} {s0 : σ} {n : Nat} (x : CntSt f s0 n) (hi : x.i < n) (hn : (f x.i x.s).isNext = true) : (x.nxt hi hn).i = x.i + 1 := rfl
theorem CntSt.nxt_s {σ ρ : Type} {f : Nat → σ → Step σ ρ} {s0 : σ} {n : Nat} (x : CntSt f s0 n) (hi : x.i < n) (hn : (f x.i x.s).isNext = true) : (x.nxt hi hn).s = (f x.i x.s).st x.s := rfl
theorem CntSt.fin {σ ρ : Type} {f : Nat → σ → Step σ ρ} {s0 : σ} {n : Nat} (x : CntSt f s0 n) (hi : ¬ x.i < n) : loopC f 0 s0 n = .fin x.s := by
  have := x.e
  rw [show n - x.i = 0 by have := x.h; omega] at this
  exact this.symm
theorem CntSt.brk {σ ρ : Type} {f : Nat → σ → Step σ ρ} {s0 : σ} {n : Nat} (x : CntSt f s0 n) (hi : x.i < n) {y : Step σ ρ} (hy : f x.i x.s = y) (hn : y.isNext = false) : loopC f 0 s0 n = y.fin := by
  rw [x.unf hi, hy]
  cases y <;> first | rfl | cases hn

theorem CntSt.out {σ ρ : Type} {f : Nat → σ → Step σ ρ} {s0 : σ} {n : Nat} (x : CntSt f s0 n) (hi : x.i < n) (hn : (f x.i x.s).isNext = false) : loopC f 0 s0 n = (f x.i x.s).fin := x.brk hi rfl hn
/-- A measure falls while it goes on. -/
structure WhlSt {σ ρ : Type} (I : σ → Prop) (m : σ → Nat) (f : σ → Step σ ρ) (s0 : σ) where
  n : Nat
  s : σ
  hI : I s
  h : m s ≤ n
  e : loopW f n s = loopW f (m s0) s0
def WhlSt.init {σ ρ : Type} {I : σ → Prop} {m : σ → Nat} {f : σ → Step σ ρ} {s0 : σ} (hI : I s0) : WhlSt I m f s0 := ⟨m s0, s0, hI, Nat.le_refl _, rfl⟩
def WhlSt.nxt {σ ρ : Type} {I : σ → Prop} {m : σ → Nat} {f : σ → Step σ ρ} {s0 : σ} (x : WhlSt I m f s0) (hn : (f x.s).isNext = true) (hm : I ((f x.s).st x.s) ∧ m ((f x.s).st x.s) < m x.s) : WhlSt I m f s0 :=
  ⟨x.n - 1, (f x.s).st x.s, hm.1, by have := x.h; omega, by
    have h := x.e
    have h1 : x.n = (x.n - 1) + 1 := by have := x.h; omega
    rw [h1, loopW, Step.of_next (d := x.s) hn] at h
    exact h⟩
theorem WhlSt.nxt_s {σ ρ : Type} {I : σ → Prop} {m : σ → Nat} {f : σ → Step σ ρ} {s0 : σ} (x : WhlSt I m f s0) (hn : (f x.s).isNext = true) (hm : I ((f x.s).st x.s) ∧ m ((f x.s).st x.s) < m x.s) : (x.nxt hn hm).s = (f x.s).st x.s := rfl
theorem WhlSt.brk {σ ρ : Type} {I : σ → Prop} {m : σ → Nat} {f : σ → Step σ ρ} {s0 : σ} (x : WhlSt I m f s0) {y : Step σ ρ} (hy : f x.s = y) (hn : y.isNext = false) : loopW f (m s0) s0 = y.fin := by
  rw [← x.e]
  cases x.n with
  | zero => rw [loopW, hy]
  | succ n =>
    rw [loopW, hy]
    cases y <;> first | rfl | cases hn

theorem WhlSt.out {σ ρ : Type} {I : σ → Prop} {m : σ → Nat} {f : σ → Step σ ρ} {s0 : σ} (x : WhlSt I m f s0) (hn : (f x.s).isNext = false) : loopW f (m s0) s0 = (f x.s).fin := x.brk rfl hn
/-- Temporaries that are kept, as they were. -/
def keepTm (tm : List (Nat × AV)) : List Nat → List (Nat × AV)
  | [] => []
  | k :: ks => (k, look tm k) :: keepTm tm ks
inductive KO where
  | keep (i : Nat)
  | new (o : Ob)
  | dead
def obsOf (ob : List (Option Ob)) : List KO → List (Option Ob)
  | [] => []
  | .keep i :: l => (ob[i]?).join :: obsOf ob l
  | .new o :: l => some o :: obsOf ob l
  | .dead :: l => none :: obsOf ob l
theorem loop_rule {W : (Exit → St → Prop) → St → Prop} {Q : Exit → St → Prop} {tm : List (Nat × AV)} {ob : List (Option Ob)} {pr : List T} {α : Type} (ks : List Nat) (mods : α → List (Nat × AV)) (obs : α → List KO) (μ : α → Nat) (x0 : α) (ρ : List (Option Nat))
    (h0 : cuts ρ ⟨tm, ob, pr⟩ ⟨mods x0 ++ keepTm tm ks, obsOf ob (obs x0), pr⟩)
    (h : ∀ x, W (thn (nextA (fun x => ⟨mods x ++ keepTm tm ks, obsOf ob (obs x), pr⟩) μ x) Q) ⟨mods x ++ keepTm tm ks, obsOf ob (obs x), pr⟩) : loopA W Q ⟨tm, ob, pr⟩ :=
  ⟨α, _, μ, ⟨x0, ρ, h0⟩, h⟩

theorem wrap_small {n : Int} (h0 : -9223372036854775808 ≤ n) (h1 : n ≤ 9223372036854775807) : IntKind.i64.wrap n = n := by
  unfold IntKind.wrap
  simp [IntKind.bits, IntKind.signed]
  omega
theorem wrap_succ {i n : Nat} (h : i < n) (hn : n ≤ 9223372036854775807) : IntKind.i64.wrap ((i : Int) + 1) = ((i + 1 : Nat) : Int) := by
  rw [wrap_small] <;> omega
theorem lt_cast (i n : Nat) : decide ((i : Int) < (n : Int)) = decide (i < n) := by simp
theorem take_map' {α : Type} {f : α → List T} {l : List α} {n : Nat} : (l.map f).take n = (l.take n).map f := List.map_take.symm
theorem drop_map' {α : Type} {f : α → List T} {l : List α} {n : Nat} : (l.map f).drop n = (l.drop n).map f := List.map_drop.symm
theorem sub_zero' (n : Int) : (n - 0).toNat = n.toNat := by simp
end Go.Ev
namespace Go.Ev
open Go
/-- What is known of the types, to be looked up fast. -/
inductive Tb (α : Type) where
  | e
  | n (l : Tb α) (k : Nat) (a : α) (r : Tb α)
def Tb.at {α : Type} : Tb α → Nat → Option α
  | .e, _ => none
  | .n l k a r, t => bif Nat.beq t k then some a else bif Nat.blt t k then l.at t else r.at t
def Tb.All {α : Type} (P : Nat → α → Prop) : Tb α → Prop
  | .e => True
  | .n l k a r => l.All P ∧ P k a ∧ r.All P
theorem Tb.get {α : Type} {P : Nat → α → Prop} : ∀ {b : Tb α} {t : Nat} {a : α}, b.All P → b.at t = some a → P t a
  | .e, _, _, _, h => by cases h
  | .n l k x r, t, a, ⟨h1, h2, h3⟩, h => by
    simp only [Tb.at] at h
    cases hk : Nat.beq t k with
    | true =>
      rw [hk] at h
      cases h
      rw [Nat.eq_of_beq_eq_true hk]; exact h2
    | false =>
      rw [hk] at h
      cases hl : Nat.blt t k with
      | true => rw [hl] at h; exact Tb.get h1 h
      | false => rw [hl] at h; exact Tb.get h3 h
def envWith (P : Program) (b : Tb TI) (c : Tb (List CK)) : Env := ⟨P, b.at, fun _ => [], c.at⟩
theorem envWith_ok {P : Program} {b : Tb TI} {c : Tb (List CK)} (hb : b.All fun t ti => tiOf P t = some ti) (hc : c.All fun t k => eqOf P t = some k) : EnvOk (envWith P b c) :=
  ⟨fun _ _ h => tiOf_ok (Tb.get hb h), fun t ks h => eqOf_ok t ks (Tb.get hc h)⟩
end Go.Ev
namespace Go.Ev
open Go
theorem row_at {α : Type} {enc : α → List T} {l : List α} {i : Nat} {r : List T} (h : (l.map enc)[(i : Int).toNat]? = some r) (hi : i < l.length) : r = enc l[i] := by
  simpa [hi] using h.symm
theorem row_of {α : Type} {enc : α → List T} {l : List α} {i : Nat} {r : List T} (h : (l.map enc)[i]? = some r) : ∃ a, l[i]? = some a ∧ r = enc a := by
  rw [List.getElem?_map] at h
  cases ha : l[i]? with
  | none => rw [ha] at h; cases h
  | some a => rw [ha] at h; cases h; exact ⟨a, rfl, rfl⟩
end Go.Ev
namespace Go.Ev
open Go
theorem row_same {α : Type} {enc : α → List T} {l : List α} {i : Nat} {r : List T} {a : α} (h : (l.map enc)[i]? = some r) (ha : l[i]? = some a) : r = enc a := by
  rw [List.getElem?_map, ha] at h
  cases h; rfl
theorem eqInt {k : IntKind} {a b : Int} (h : b = a) : T.v (.int k b) = T.v (.int k a) := by rw [h]
theorem eqBool {a b : Bool} (h : b = a) : T.v (.bool b) = T.v (.bool a) := by rw [h]
theorem eqStr {a b : ByteArray} (h : b = a) : T.v (.string b) = T.v (.string a) := by rw [h]
theorem eqSl {o : Bool} {k : Nat} {r r' : List (List T)} (h : r = r') : T.s o k r = T.s o k r' := by rw [h]
theorem resInt {k : IntKind} {a b : Int} (h : b = a) : AV.one (.v (.int k b)) = AV.one (.v (.int k a)) := by rw [h]
theorem resBool {a b : Bool} (h : b = a) : AV.one (.v (.bool b)) = AV.one (.v (.bool a)) := by rw [h]
theorem resStr {a b : ByteArray} (h : b = a) : AV.one (.v (.string b)) = AV.one (.v (.string a)) := by rw [h]
theorem resSl {o : Bool} {k : Nat} {r r' : List (List T)} (h : r = r') : AV.one (.s o k r) = AV.one (.s o k r') := by rw [h]
theorem resAgg {l m : List T} (h : l = m) : AV.agg l = AV.agg m := by rw [h]
theorem resTup {l m : List AV} (h : l = m) : AV.tup l = AV.tup m := by rw [h]
theorem consT {α : Type} {a b : α} {l m : List α} (h : a = b) (h' : l = m) : a :: l = b :: m := by rw [h, h']
/-- Cells of plain values. -/
def cInt (x : Int) : List T := [.v (.int .i64 x)]
def cU8 (x : Int) : List T := [.v (.int .u8 x)]
def cBool (x : Bool) : List T := [.v (.bool x)]
def cStr (x : ByteArray) : List T := [.v (.string x)]
def cSl {α : Type} (o : Bool) (k : Nat) (f : α → List T) (x : List α) : List T := [.s o k (x.map f)]
end Go.Ev
namespace Go.Ev
open Go
theorem row_of' {α : Type} {enc : α → List T} {l : List α} {rows : List (List T)} {i : Nat} {r : List T} (hw : rows = l.map enc) (h : rows[i]? = some r) : ∃ a, l[i]? = some a ∧ r = enc a := row_of (by rw [← hw]; exact h)
def T.noId : T → Bool
  | .v _ => true
  | .s _ _ _ => true
  | .q _ _ _ _ => true
  | .h => true
  | _ => false
def AV.noId : AV → Bool
  | .one t => t.noId
  | .agg l => l.all T.noId
  | .no => true
  | _ => false
theorem eqT_same {ρ : List (Option Nat)} {t : T} (h : t.noId = true) : eqT ρ t t := by
  cases t with
  | v x => exact rfl
  | s o k rows => cases o <;> exact rfl
  | q k rows row off => exact rfl
  | h => exact trivial
  | _ => cases h
theorem eqTs_same {ρ : List (Option Nat)} : ∀ {l : List T}, l.all T.noId = true → eqTs ρ l l
  | [], _ => trivial
  | t :: l, h => by
    simp only [List.all_cons, Bool.and_eq_true] at h
    exact ⟨eqT_same h.1, eqTs_same h.2⟩
theorem eqAV_same {ρ : List (Option Nat)} {a : AV} (h : a.noId = true) : eqAV ρ a a := by
  cases a with
  | one t => exact eqT_same h
  | agg l => exact eqTs_same h
  | no => exact trivial
  | _ => cases h
theorem ownSl {α : Type} {k : Nat} {enc : α → List T} (h : ∀ x, OwnL (enc x)) (l : List α) : OwnT (.s true k (l.map enc)) := by
  cases l with
  | nil => exact .nil _ _
  | cons a l =>
    refine .s _ _ fun r hr t ht => ?_
    obtain ⟨x, _, rfl⟩ := List.mem_map.1 hr
    obtain ⟨j, hj⟩ := List.getElem?_of_mem ht
    exact OwnL.get (h x) j t hj
theorem frzMap {α : Type} {f g : α → List T} (h : ∀ x, frzL (f x) = g x) (l : List α) : frzLL (l.map f) = l.map g := by
  rw [frzLL_map]
  exact List.map_congr_left fun x _ => h x
theorem fzMap {α : Type} {f g : α → List T} (h : ∀ x, (f x).map T.fz = g x) (l : List α) : rowsFz (l.map f) = l.map g := by
  unfold rowsFz
  rw [List.map_map]
  exact List.map_congr_left fun x _ => h x
theorem shMap {α : Type} {f : α → List T} (h : ∀ x, (f x).map T.sh = f x) (l : List α) : rowsSh (l.map f) = l.map f := by
  unfold rowsSh
  rw [List.map_map]
  exact List.map_congr_left fun x _ => h x
theorem flMap {α : Type} {f : α → List T} (h : ∀ x, (f x).map T.flat = f x) (l : List α) : rowsFlat (l.map f) = l.map f := by
  unfold rowsFlat
  rw [List.map_map]
  exact List.map_congr_left fun x _ => h x
theorem setMap {α : Type} {f : α → List T} {l : List α} {i off : Nat} {cs : List T} {b : α} (h : ∀ a, l[i]? = some a → fillRow (f a) off cs = f b) : (l.map f).set i (fillRow (rowAt (l.map f) i) off cs) = (l.set i b).map f := by
  by_cases hi : i < l.length
  · have e : rowAt (l.map f) i = f l[i] := by simp [rowAt, List.getD, hi]
    rw [e, h _ (List.getElem?_eq_getElem hi), List.map_set]
  · rw [List.set_eq_of_length_le (by simpa using hi), List.set_eq_of_length_le (by simpa using hi)]
theorem own_cInt (x : Int) : OwnL (cInt x) := ⟨.v _, trivial⟩
theorem own_cU8 (x : Int) : OwnL (cU8 x) := ⟨.v _, trivial⟩
theorem own_cBool (x : Bool) : OwnL (cBool x) := ⟨.v _, trivial⟩
theorem own_cStr (x : ByteArray) : OwnL (cStr x) := ⟨.v _, trivial⟩
theorem own_cSl {α : Type} {k : Nat} {enc : α → List T} (h : ∀ x, OwnL (enc x)) (l : List α) : OwnL (cSl true k enc l) := ⟨ownSl h l, trivial⟩
theorem frz_cInt (x : Int) : frzL (cInt x) = cInt x := rfl
theorem frz_cU8 (x : Int) : frzL (cU8 x) = cU8 x := rfl
theorem frz_cBool (x : Bool) : frzL (cBool x) = cBool x := rfl
theorem frz_cStr (x : ByteArray) : frzL (cStr x) = cStr x := rfl
theorem frz_cSl {α : Type} {o : Bool} {k : Nat} {f g : α → List T} (h : ∀ x, frzL (f x) = g x) (l : List α) : frzL (cSl o k f l) = cSl false k g l := by
  show [T.s false k (frzLL (l.map f))] = _
  rw [frzMap h]; rfl
theorem fz_cInt (x : Int) : (cInt x).map T.fz = cInt x := rfl
theorem fz_cU8 (x : Int) : (cU8 x).map T.fz = cU8 x := rfl
theorem fz_cBool (x : Bool) : (cBool x).map T.fz = cBool x := rfl
theorem fz_cStr (x : ByteArray) : (cStr x).map T.fz = cStr x := rfl
theorem fz_cSl {α : Type} {o : Bool} {k : Nat} {f g : α → List T} (h : ∀ x, frzL (f x) = g x) (l : List α) : (cSl o k f l).map T.fz = cSl false k g l := by
  show [T.s false k (frzLL (l.map f))] = _
  rw [frzMap h]; rfl
theorem fl_cInt (x : Int) : (cInt x).map T.flat = cInt x := rfl
theorem fl_cU8 (x : Int) : (cU8 x).map T.flat = cU8 x := rfl
theorem fl_cBool (x : Bool) : (cBool x).map T.flat = cBool x := rfl
theorem fl_cStr (x : ByteArray) : (cStr x).map T.flat = cStr x := rfl
end Go.Ev
namespace Go.Ev
open Go
def LstSt.step {α σ ρ : Type} {f : Nat → σ → α → Step σ ρ} {s0 : σ} {l : List α} (x : LstSt f s0 l) (hi : x.i < l.length) (v : σ) (hf : f x.i x.s l[x.i] = .next v) : LstSt f s0 l :=
  ⟨x.i + 1, hi, v, by
    have := x.unf hi
    rw [hf] at this
    exact this.symm⟩
theorem LstSt.go {α σ ρ : Type} {f : Nat → σ → α → Step σ ρ} {s0 : σ} {l : List α} (x : LstSt f s0 l) (hi : x.i < l.length) {v : σ} (hf : f x.i x.s l[x.i] = .next v) {S : LstSt f s0 l → St} {μ : LstSt f s0 l → Nat} {st' : St} (ρ' : List (Option Nat))
    (hm : μ (x.step hi v hf) < μ x) (hc : cuts ρ' st' (S (x.step hi v hf))) : nextA S μ x st' := ⟨_, ρ', hm, hc⟩
def CntSt.step {σ ρ : Type} {f : Nat → σ → Step σ ρ} {s0 : σ} {n : Nat} (x : CntSt f s0 n) (hi : x.i < n) (v : σ) (hf : f x.i x.s = .next v) : CntSt f s0 n :=
  ⟨x.i + 1, hi, v, by
    have := x.unf hi
    rw [hf] at this
    exact this.symm⟩
theorem CntSt.go {σ ρ : Type} {f : Nat → σ → Step σ ρ} {s0 : σ} {n : Nat} (x : CntSt f s0 n) (hi : x.i < n) {v : σ} (hf : f x.i x.s = .next v) {S : CntSt f s0 n → St} {μ : CntSt f s0 n → Nat} {st' : St} (ρ' : List (Option Nat))
    (hm : μ (x.step hi v hf) < μ x) (hc : cuts ρ' st' (S (x.step hi v hf))) : nextA S μ x st' := ⟨_, ρ', hm, hc⟩
def WhlSt.step {σ ρ : Type} {I : σ → Prop} {m : σ → Nat} {f : σ → Step σ ρ} {s0 : σ} (x : WhlSt I m f s0) (v : σ) (hf : f x.s = .next v) (hI : I v) (hm : m v < m x.s) : WhlSt I m f s0 :=
  ⟨x.n - 1, v, hI, by have := x.h; omega, by
    have h := x.e
    have h1 : x.n = (x.n - 1) + 1 := by have := x.h; omega
    rw [h1, loopW, hf] at h
    exact h⟩
theorem WhlSt.go {σ ρ : Type} {I : σ → Prop} {m : σ → Nat} {f : σ → Step σ ρ} {s0 : σ} (x : WhlSt I m f s0) {v : σ} (hf : f x.s = .next v) {S : WhlSt I m f s0 → St} {μ : WhlSt I m f s0 → Nat} {st' : St} (ρ' : List (Option Nat))
    (hIm : I v ∧ m v < m x.s) (hm : μ (x.step v hf hIm.1 hIm.2) < μ x) (hc : cuts ρ' st' (S (x.step v hf hIm.1 hIm.2))) : nextA S μ x st' := ⟨_, ρ', hm, hc⟩
end Go.Ev
namespace Go.Ev
open Go
theorem Step.isNext_stop {σ ρ : Type} (s : σ) : (Step.stop s : Step σ ρ).isNext = false := rfl
theorem Step.isNext_done {σ ρ : Type} (r : ρ) : (Step.done r : Step σ ρ).isNext = false := rfl
theorem idx_at {α : Type} {enc : α → List T} {l : List α} {i : Nat} (hi : i < l.length) : 0 ≤ (i : Int) ∧ (i : Int) < ((l.map enc).length : Int) := by
  rw [List.length_map]; omega
theorem idx_of {α : Type} {enc : α → List T} {l : List α} {i : Int} {a : α} (h0 : 0 ≤ i) (h : l[i.toNat]? = some a) : 0 ≤ i ∧ i < ((l.map enc).length : Int) := by
  obtain ⟨h, _⟩ := List.getElem?_eq_some_iff.1 h
  rw [List.length_map]; omega
end Go.Ev
namespace Go.Ev
open Go
theorem rowAtE {α : Type} {enc : α → List T} {l : List α} {i j : Nat} {K : List T → Prop} (hj : j = i) (hi : i < l.length) (h : K (enc l[i])) : ∀ r, (true = true → (l.map enc)[j]? = some r) → K r := by
  intro r hr
  subst hj
  have := hr rfl
  rw [List.getElem?_map, List.getElem?_eq_getElem hi] at this
  cases this; exact h
theorem rowOfE {α : Type} {enc : α → List T} {l : List α} {i j : Nat} {K : List T → Prop} (hj : j = i) (h : ∀ a, l[i]? = some a → K (enc a)) : ∀ r, (true = true → (l.map enc)[j]? = some r) → K r := by
  intro r hr
  subst hj
  obtain ⟨a, ha, rfl⟩ := row_of (hr rfl)
  exact h a ha
theorem rowSameE {α : Type} {enc : α → List T} {l : List α} {i j : Nat} {K : List T → Prop} (hj : j = i) {a : α} (ha : l[i]? = some a) (h : K (enc a)) : ∀ r, (true = true → (l.map enc)[j]? = some r) → K r := by
  intro r hr
  subst hj
  rw [row_same (hr rfl) ha]; exact h
theorem lenE {n k : Nat} {K : Nat → Prop} (hn : n = k) (h : k ≤ 9223372036854775807 → K k) : ∀ m, m = n → (true = true → m ≤ 9223372036854775807) → K m := by
  intro m hm hN
  subst hm hn
  exact h (hN rfl)
theorem rowsE {X Y : List (List T)} {K : List (List T) → Prop} (e : X = Y) (h : K Y) : ∀ r, r = X → K r := by
  intro r hr
  subst hr e
  exact h
end Go.Ev
namespace Go.Ev
open Go
theorem setMapE {α : Type} {f : α → List T} {l : List α} {i j off : Nat} {cs : List T} {b : α} (hj : j = i) (h : ∀ a, l[i]? = some a → fillRow (f a) off cs = f b) : (l.map f).set j (fillRow (rowAt (l.map f) j) off cs) = (l.set i b).map f := by
  subst hj; exact setMap h
/-- With what holds in each round. -/
structure LstInv {α σ ρ : Type} (I : Nat → σ → Prop) (f : Nat → σ → α → Step σ ρ) (s0 : σ) (l : List α) extends LstSt f s0 l where
  hI : I i s
def LstInv.init {α σ ρ : Type} {I : Nat → σ → Prop} {f : Nat → σ → α → Step σ ρ} {s0 : σ} {l : List α} (h : I 0 s0) : LstInv I f s0 l := ⟨.init, h⟩
theorem LstInv.go' {α σ ρ : Type} {I : Nat → σ → Prop} {f : Nat → σ → α → Step σ ρ} {s0 : σ} {l : List α} (x : LstInv I f s0 l) (hi : x.i < l.length) {v : σ} (hf : f x.i x.s l[x.i] = .next v) (hI : I (x.i + 1) v) {S : LstInv I f s0 l → St} {μ : LstInv I f s0 l → Nat} {st' : St} (ρ' : List (Option Nat))
    (hm : μ ⟨x.step hi v hf, hI⟩ < μ x) (hc : cuts ρ' st' (S ⟨x.step hi v hf, hI⟩)) : nextA S μ x st' := ⟨_, ρ', hm, hc⟩
structure CntInv {σ ρ : Type} (I : Nat → σ → Prop) (f : Nat → σ → Step σ ρ) (s0 : σ) (n : Nat) extends CntSt f s0 n where
  hI : I i s
def CntInv.init {σ ρ : Type} {I : Nat → σ → Prop} {f : Nat → σ → Step σ ρ} {s0 : σ} {n : Nat} (h : I 0 s0) : CntInv I f s0 n := ⟨.init, h⟩
theorem CntInv.go' {σ ρ : Type} {I : Nat → σ → Prop} {f : Nat → σ → Step σ ρ} {s0 : σ} {n : Nat} (x : CntInv I f s0 n) (hi : x.i < n) {v : σ} (hf : f x.i x.s = .next v) (hI : I (x.i + 1) v) {S : CntInv I f s0 n → St} {μ : CntInv I f s0 n → Nat} {st' : St} (ρ' : List (Option Nat))
    (hm : μ ⟨x.step hi v hf, hI⟩ < μ x) (hc : cuts ρ' st' (S ⟨x.step hi v hf, hI⟩)) : nextA S μ x st' := ⟨_, ρ', hm, hc⟩
end Go.Ev
namespace Go.Ev
open Go
def bdS {α : Type} (P : Nat → α → Prop) (M : Nat) (l : List α) : Prop := l.length ≤ M ∧ ∀ x ∈ l, P M x
theorem bdS.get {α : Type} {P : Nat → α → Prop} {M : Nat} {l : List α} (h : bdS P M l) {i : Nat} (hi : i < l.length) : P M l[i] := h.2 _ (List.getElem_mem hi)
end Go.Ev
namespace Go.Ev
open Go
/-- What a size function tells. -/
def Szd {α : Type} (P : Nat → α → Prop) (f : α → Int → Int) : Prop := ∀ x left, P 9223372036854775807 x → 0 ≤ left → left ≤ 1048576 → 0 ≤ f x left → P 1048576 x ∧ f x left ≤ left
theorem szL_ok {α ρ : Type} {P : Nat → α → Prop} {f : α → Int → Int} (hf : Szd P f) {b : Nat → Int → α → Step Int Int} (hb : ∀ i s a, b i s a = bif decide (f a s < 0) then .done (-1) else .next (f a s)) : ∀ (l : List α) (i : Nat) (left : Int), (∀ x ∈ l, P 9223372036854775807 x) → 0 ≤ left → left ≤ 1048576 →
    (loopL b i left l = .done (-1)) ∨ ∃ s, loopL b i left l = .fin s ∧ 0 ≤ s ∧ s ≤ left ∧ ∀ x ∈ l, P 1048576 x
  | [], i, left, _, h0, h1 => .inr ⟨left, rfl, h0, Int.le_refl _, by simp⟩
  | a :: l, i, left, hl, h0, h1 => by
    unfold loopL
    rw [hb]
    cases hc : decide (f a left < 0) with
    | true => exact .inl rfl
    | false =>
      have hc : 0 ≤ f a left := by simpa using hc
      obtain ⟨p1, p2⟩ := hf a left (hl a (by simp)) h0 h1 hc
      rcases szL_ok (ρ := ρ) hf hb l (i + 1) (f a left) (fun x hx => hl x (by simp [hx])) hc (by omega) with h | ⟨s, h, q0, q1, q2⟩
      · exact .inl h
      · exact .inr ⟨s, h, q0, by omega, by simpa using ⟨p1, q2⟩⟩
theorem szS_ok {α : Type} {P : Nat → α → Prop} {f : α → Int → Int} (hf : Szd P f) {b : Nat → Int → α → Step Int Int} (hb : ∀ i s a, b i s a = bif decide (f a s < 0) then .done (-1) else .next (f a s)) {g : List α → Int → Int}
    (hg : ∀ l left, g l left = bif decide (IntKind.i64.wrap (left - ((l.length : Nat) : Int)) < 0) then (-1) else Fin.get (fun s => s) (loopL b 0 (IntKind.i64.wrap (left - ((l.length : Nat) : Int))) l)) : Szd (bdS P) g := by
  intro l left hl h0 h1 h2
  rw [hg] at h2 ⊢
  have hl1 := hl.1
  have hw : IntKind.i64.wrap (left - ((l.length : Nat) : Int)) = left - ((l.length : Nat) : Int) := by rw [wrap_small] <;> omega
  rw [hw] at h2 ⊢
  cases hc : decide (left - ((l.length : Nat) : Int) < 0) with
  | true => rw [hc] at h2; simp at h2
  | false =>
    rw [hc] at h2
    simp only [cond_false] at h2 ⊢
    have hc : 0 ≤ left - ((l.length : Nat) : Int) := by simpa using hc
    rcases szL_ok (ρ := Int) hf hb l 0 _ hl.2 hc (by omega) with h | ⟨s, h, q0, q1, q2⟩
    · rw [h, Fin.get_done] at h2; simp at h2
    · rw [h, Fin.get_fin]; exact ⟨⟨by omega, q2⟩, by omega⟩
theorem setL_ok {α : Type} {b : Nat → List α → α → Step (List α) (List α)} {g : α → α} (hg : ∀ a, g a = a) (hb : ∀ i s a, b i s a = .next (s.set i (g a))) : ∀ (l d e : List α), e.length = l.length → loopL b d.length (d ++ e) l = .fin (d ++ l)
  | [], d, e, h => by cases e with | nil => rfl | cons => simp at h
  | a :: l, d, [], h => by simp at h
  | a :: l, d, x :: e, h => by
    unfold loopL
    rw [hb, hg]
    have h1 : (d ++ x :: e).set d.length a = (d ++ [a]) ++ e := by simp
    have h2 : d.length + 1 = (d ++ [a]).length := by simp
    simp only
    rw [h1, h2, setL_ok hg hb l (d ++ [a]) e (by simpa using h)]
    simp
theorem setS_ok {α : Type} [Inhabited α] {b : Nat → List α → α → Step (List α) (List α)} {g : α → α} (hg : ∀ a, g a = a) (hb : ∀ i s a, b i s a = .next (s.set i (g a))) {G : List α → List α}
    (hG : ∀ l, G l = Fin.get (fun s => s) (loopL b 0 (List.replicate l.length (default : α)) l)) (l : List α) : G l = l := by
  have := setL_ok hg hb l [] (List.replicate l.length default) (by simp)
  simp only [List.length_nil, List.nil_append] at this
  rw [hG, this, Fin.get_fin]
theorem eqL_ok {α : Type} [Inhabited α] {l : List α} {b : Nat → Unit → α → Step Unit Bool} {e : α → α → Bool} (he : ∀ a, e a a = true) (hb : ∀ i s a, b i s a = bif !(e a (l[i]?.getD default)) then .done false else .next ()) : ∀ (m d : List α), l = d ++ m → loopL b d.length () m = .fin ()
  | [], d, _ => rfl
  | a :: m, d, h => by
    unfold loopL
    rw [hb]
    have h1 : l[d.length]? = some a := by rw [h]; simp
    rw [h1, Option.getD_some, he]
    have := eqL_ok he hb m (d ++ [a]) (by rw [h]; simp)
    simp only [List.length_append, List.length_cons, List.length_nil] at this
    exact this
theorem eqS_ok {α : Type} [Inhabited α] {b : List α → Nat → Unit → α → Step Unit Bool} {e : α → α → Bool} (he : ∀ a, e a a = true) (hb : ∀ l i s a, b l i s a = bif !(e a (l[i]?.getD default)) then .done false else .next ()) {G : List α → List α → Bool}
    (hG : ∀ l m, G l m = bif (((l.length : Nat) : Int) != ((m.length : Nat) : Int)) then false else (Fin.get (fun _ => true) (loopL (b m) 0 () l))) (l : List α) : G l l = true := by
  have := eqL_ok (l := l) he (hb l) l [] (by simp)
  simp only [List.length_nil] at this
  rw [hG, this, Fin.get_fin]; simp
end Go.Ev
namespace Go.Ev
open Go
theorem litE {n m : Nat} {K : Nat → Prop} (e : m = n) (h : K m) : ∀ k, k = n → K k := by
  intro k hk
  subst hk e; exact h
end Go.Ev
namespace Go.Ev
open Go
theorem loopC_list_aux {α σ ρ : Type} {f : Nat → σ → Step σ ρ} {g : Nat → σ → α → Step σ ρ} {l : List α} (h : ∀ i (hi : i < l.length) s, f i s = g i s l[i]) : ∀ (n i : Nat) (s : σ), i + n = l.length → loopC f i s n = loopL g i s (l.drop i)
  | 0, i, s, e => by rw [List.drop_eq_nil_of_le (by omega)]; rfl
  | n + 1, i, s, e => by
    rw [List.drop_eq_getElem_cons (show i < l.length by omega)]
    unfold loopC loopL
    rw [h i (by omega)]
    cases g i s l[i] with
    | next s' => exact loopC_list_aux h n (i + 1) s' (by omega)
    | stop s' => rfl
    | done r => rfl
/-- Counted over a list's places: the same as over the list. -/
theorem loopC_list {α σ ρ : Type} {f : Nat → σ → Step σ ρ} {g : Nat → σ → α → Step σ ρ} {l : List α} {s : σ} (h : ∀ i (hi : i < l.length) s, f i s = g i s l[i]) : loopC f 0 s l.length = loopL g 0 s l :=
  loopC_list_aux h l.length 0 s (by omega)
end Go.Ev
namespace Go.Ev
open Go
/-- A loop that looks for one. -/
theorem any_loop {α ρ : Type} {p : α → Bool} {r : Nat → ρ} {b : Nat → Unit → α → Step Unit ρ} (hb : ∀ i s a, b i s a = bif p a then .done (r i) else .next ()) : ∀ (l : List α) (i : Nat), (l.any p = true ∧ ∃ j, loopL b i () l = .done (r j)) ∨ (l.any p = false ∧ loopL b i () l = .fin ())
  | [], i => .inr ⟨rfl, rfl⟩
  | a :: l, i => by
    unfold loopL
    rw [hb, List.any_cons]
    cases p a with
    | true => exact .inl ⟨rfl, i, rfl⟩
    | false => simpa using any_loop hb l (i + 1)
end Go.Ev
