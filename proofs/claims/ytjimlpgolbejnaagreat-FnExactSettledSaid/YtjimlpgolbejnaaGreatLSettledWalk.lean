import Derived.Test.YtjimlpgolbejnaaGreatLTabsSettled
import Derived.Test.YtjimlpgolbejnaaGreatEvIns
import Derived.Test.YtjimlpgolbejnaaGreatEvPf
import Derived.Test.YtjimlpgolbejnaaGreatEvS
set_option linter.unusedSectionVars false
namespace Go.Proofs.Tryz.Ev
open Go Go.Ev Go.Proofs
set_option maxHeartbeats 4000000
set_option maxRecDepth 100000
set_option linter.unusedSimpArgs false
set_option linter.unusedVariables false
set_option linter.unusedSectionVars false
structure Pol where
  Kind : Int
  N : Int
  Key : ByteArray
  Text : ByteArray
  L : (List Pol)
instance : Inhabited Pol := ⟨⟨0, 0, ByteArray.empty, ByteArray.empty, []⟩⟩
mutual
def Pol.dep : Pol → Nat
  | ⟨y0, y1, y2, y3, y4⟩ => Pol.depL y4 + 1
def Pol.depL : List Pol → Nat
  | [] => 0
  | p :: l => max (Pol.dep p) (Pol.depL l)
end
theorem Pol.depL_mem : ∀ {l : List Pol} {x : Pol}, x ∈ l → Pol.dep x ≤ Pol.depL l
  | p :: l, x, h => by
    simp only [Pol.depL]
    rcases List.mem_cons.1 h with rfl | h
    · omega
    · have := Pol.depL_mem h
      omega
theorem Pol.dep_lt {x y : Pol} (h : x ∈ y.L) : Pol.dep x < Pol.dep y := by
  obtain ⟨y0, y1, y2, y3, y4⟩ := y
  have := Pol.depL_mem (l := y4) h
  simp only [Pol.dep]
  omega
mutual
def Pol.cells (o : Bool) : Pol → List T
  | ⟨y0, y1, y2, y3, y4⟩ => [.v (.int .i64 y0), .v (.int .i64 y1), .v (.string y2), .v (.string y3), .s o 5 (Pol.cellsL o y4)]
def Pol.cellsL (o : Bool) : List Pol → List (List T)
  | [] => []
  | p :: l => Pol.cells o p :: Pol.cellsL o l
end
theorem Pol.cellsL_eq (o : Bool) : ∀ l : List Pol, Pol.cellsL o l = List.map (Pol.cells o) l
  | [] => rfl
  | p :: l => by simp only [Pol.cellsL, List.map_cons, Pol.cellsL_eq o l]
def Pol.opn (o : Bool) (x : Pol) : List T := [.v (.int .i64 x.Kind), .v (.int .i64 x.N), .v (.string x.Key), .v (.string x.Text), .s o 5 (List.map (Pol.cells o) x.L)]
theorem Pol.cells_eq (o : Bool) (x : Pol) : Pol.cells o x = Pol.opn o x := by
  obtain ⟨y0, y1, y2, y3, y4⟩ := x
  simp only [Pol.cells, Pol.opn, Pol.cellsL_eq]
theorem own_Pol (x : Pol) : OwnL (Pol.cells true x) := by
  rw [Pol.cells_eq]
  exact ⟨.v _, .v _, .v _, .v _, ownSlM (fun x hx => own_Pol x), trivial⟩
termination_by Pol.dep x
decreasing_by exact Pol.dep_lt hx
theorem ownO_Pol (x : Pol) : OwnL (Pol.opn true x) := by
  rw [← Pol.cells_eq]; exact own_Pol x
theorem frz_Pol {o : Bool} (x : Pol) : frzL (Pol.cells o x) = Pol.cells false x := by
  rw [Pol.cells_eq, Pol.cells_eq]
  show [T.v (.int .i64 x.Kind), T.v (.int .i64 x.N), T.v (.string x.Key), T.v (.string x.Text), T.s false 5 (frzLL (List.map (Pol.cells o) x.L))] = _
  rw [frzMapM (f := Pol.cells o) (g := Pol.cells false) (fun y hy => frz_Pol y)]
  rfl
termination_by Pol.dep x
decreasing_by exact Pol.dep_lt hy
theorem frzO_Pol {o : Bool} (x : Pol) : frzL (Pol.opn o x) = Pol.opn false x := by
  rw [← Pol.cells_eq, ← Pol.cells_eq]; exact frz_Pol x
theorem sh_Pol (x : Pol) : (Pol.cells false x).map T.sh = Pol.cells false x := by rw [Pol.cells_eq]; rfl
theorem fz_Pol {o : Bool} (x : Pol) : (Pol.cells o x).map T.fz = Pol.cells false x := by
  rw [Pol.cells_eq, Pol.cells_eq]
  show [T.v (.int .i64 x.Kind), T.v (.int .i64 x.N), T.v (.string x.Key), T.v (.string x.Text), T.s false 5 (frzLL (List.map (Pol.cells o) x.L))] = _
  rw [frzMap (f := Pol.cells o) (g := Pol.cells false) frz_Pol]
  rfl
mutual
def Pol.bd (M : Nat) : Pol → Prop
  | ⟨y0, y1, y2, y3, y4⟩ => y2.size ≤ M ∧ y3.size ≤ M ∧ (y4.length ≤ M ∧ Pol.bdL M y4)
def Pol.bdL (M : Nat) : List Pol → Prop
  | [] => True
  | p :: l => Pol.bd M p ∧ Pol.bdL M l
end
theorem Pol.bdL_iff {M : Nat} : ∀ {l : List Pol}, Pol.bdL M l ↔ ∀ x ∈ l, Pol.bd M x
  | [] => by simp [Pol.bdL]
  | p :: l => by simp [Pol.bdL, Pol.bdL_iff (l := l)]
theorem Pol.bd_eq {M : Nat} {x : Pol} : Pol.bd M x ↔ x.Key.size ≤ M ∧ x.Text.size ≤ M ∧ bdS Pol.bd M x.L := by
  obtain ⟨y0, y1, y2, y3, y4⟩ := x
  simp only [Pol.bd, bdS, Pol.bdL_iff]
structure Conf where
  Stripes : Int
  Wait : Int
  Budget : Int
  Cache : Int
  Queue : Int
  Rate : Int
  Burst : Int
  Rule : Pol
deriving Inhabited
def Conf.cells (o : Bool) (x : Conf) : List T := [.v (.int .i64 x.Stripes), .v (.int .i64 x.Wait), .v (.int .i64 x.Budget), .v (.int .i64 x.Cache), .v (.int .i64 x.Queue), .v (.int .i64 x.Rate), .v (.int .i64 x.Burst), .v (.int .i64 x.Rule.Kind), .v (.int .i64 x.Rule.N), .v (.string x.Rule.Key), .v (.string x.Rule.Text), .s o 5 (List.map (Pol.cells o) x.Rule.L)]
theorem own_Conf (x : Conf) : OwnL (Conf.cells true x) := ⟨.v _, .v _, .v _, .v _, .v _, .v _, .v _, .v _, .v _, .v _, .v _, ownSl own_Pol _, trivial⟩
theorem frz_Conf {o : Bool} (x : Conf) : frzL (Conf.cells o x) = Conf.cells false x := by
  show [T.v (.int .i64 x.Stripes), T.v (.int .i64 x.Wait), T.v (.int .i64 x.Budget), T.v (.int .i64 x.Cache), T.v (.int .i64 x.Queue), T.v (.int .i64 x.Rate), T.v (.int .i64 x.Burst), T.v (.int .i64 x.Rule.Kind), T.v (.int .i64 x.Rule.N), T.v (.string x.Rule.Key), T.v (.string x.Rule.Text), T.s false 5 (frzLL (List.map (Pol.cells o) x.Rule.L))] = _
  rw [frzMap (f := (Pol.cells o)) (g := (Pol.cells false)) frz_Pol x.Rule.L]
  rfl
theorem sh_Conf (x : Conf) : (Conf.cells false x).map T.sh = Conf.cells false x := rfl
theorem fz_Conf {o : Bool} (x : Conf) : (Conf.cells o x).map T.fz = Conf.cells false x := by
  show [T.v (.int .i64 x.Stripes), T.v (.int .i64 x.Wait), T.v (.int .i64 x.Budget), T.v (.int .i64 x.Cache), T.v (.int .i64 x.Queue), T.v (.int .i64 x.Rate), T.v (.int .i64 x.Burst), T.v (.int .i64 x.Rule.Kind), T.v (.int .i64 x.Rule.N), T.v (.string x.Rule.Key), T.v (.string x.Rule.Text), T.s false 5 (frzLL (List.map (Pol.cells o) x.Rule.L))] = _
  rw [frzMap (f := (Pol.cells o)) (g := (Pol.cells false)) frz_Pol x.Rule.L]
  rfl
def Conf.bd (M : Nat) (x : Conf) : Prop := Pol.bd M x.Rule
def Conf.rg (x : Conf) : Prop := I64 x.Stripes ∧ I64 x.Wait ∧ I64 x.Budget ∧ I64 x.Cache ∧ I64 x.Queue ∧ I64 x.Rate ∧ I64 x.Burst ∧ I64 x.Rule.Kind ∧ I64 x.Rule.N ∧ (x.Rule.Key).size ≤ 9223372036854775807 ∧ (x.Rule.Text).size ≤ 9223372036854775807 ∧ ((x.Rule.L).length ≤ 9223372036854775807 ∧ ∀ y ∈ x.Rule.L, True) ∧ True
theorem rg_Conf {o : Bool} {x : Conf} (h : fitL (Conf.cells o x)) : Conf.rg x := ⟨(range_of_fit h.1), (range_of_fit h.2.1), (range_of_fit h.2.2.1), (range_of_fit h.2.2.2.1), (range_of_fit h.2.2.2.2.1), (range_of_fit h.2.2.2.2.2.1), (range_of_fit h.2.2.2.2.2.2.1), (range_of_fit h.2.2.2.2.2.2.2.1), (range_of_fit h.2.2.2.2.2.2.2.2.1), (Nat.le_of_ble_eq_true h.2.2.2.2.2.2.2.2.2.1), (Nat.le_of_ble_eq_true h.2.2.2.2.2.2.2.2.2.2.1), ⟨by simpa using h.2.2.2.2.2.2.2.2.2.2.2.1.1, fun y0 hy0 => trivial⟩, trivial⟩
theorem Conf.rg.Stripes {x : Conf} (h : Conf.rg x) : I64 x.Stripes := h.1
theorem Conf.rg.Wait {x : Conf} (h : Conf.rg x) : I64 x.Wait := h.2.1
theorem Conf.rg.Budget {x : Conf} (h : Conf.rg x) : I64 x.Budget := h.2.2.1
theorem Conf.rg.Cache {x : Conf} (h : Conf.rg x) : I64 x.Cache := h.2.2.2.1
theorem Conf.rg.Queue {x : Conf} (h : Conf.rg x) : I64 x.Queue := h.2.2.2.2.1
theorem Conf.rg.Rate {x : Conf} (h : Conf.rg x) : I64 x.Rate := h.2.2.2.2.2.1
theorem Conf.rg.Burst {x : Conf} (h : Conf.rg x) : I64 x.Burst := h.2.2.2.2.2.2.1
structure Attr where
  Key : ByteArray
  Num : Bool
  N : Int
  Text : ByteArray
deriving DecidableEq, Inhabited
def Attr.cells (x : Attr) : List T := [.v (.string x.Key), .v (.bool x.Num), .v (.int .i64 x.N), .v (.string x.Text)]
theorem own_Attr (x : Attr) : OwnL (Attr.cells x) := ⟨.v _, .v _, .v _, .v _, trivial⟩
theorem frz_Attr (x : Attr) : frzL (Attr.cells x) = Attr.cells x := rfl
theorem fz_Attr (x : Attr) : (Attr.cells x).map T.fz = Attr.cells x := rfl
theorem fl_Attr (x : Attr) : (Attr.cells x).map T.flat = Attr.cells x := rfl
def Attr.bd (M : Nat) (x : Attr) : Prop := x.Key.size ≤ M ∧ x.Text.size ≤ M
def Attr.rg (x : Attr) : Prop := (x.Key).size ≤ 9223372036854775807 ∧ True ∧ I64 x.N ∧ (x.Text).size ≤ 9223372036854775807 ∧ True
theorem rg_Attr {x : Attr} (h : fitL (Attr.cells x)) : Attr.rg x := ⟨(Nat.le_of_ble_eq_true h.1), trivial, (range_of_fit h.2.2.1), (Nat.le_of_ble_eq_true h.2.2.2.1), trivial⟩
theorem Attr.rg.Key {x : Attr} (h : Attr.rg x) : (x.Key).size ≤ 9223372036854775807 := h.1
theorem Attr.rg.N {x : Attr} (h : Attr.rg x) : I64 x.N := h.2.2.1
theorem Attr.rg.Text {x : Attr} (h : Attr.rg x) : (x.Text).size ≤ 9223372036854775807 := h.2.2.2.1
structure Span where
  Trace : Int
  Id : Int
  Start : Int
  End : Int
  Err : Bool
  Attrs : (List Attr)
deriving DecidableEq, Inhabited
def Span.cells (o : Bool) (x : Span) : List T := [.v (.int .i64 x.Trace), .v (.int .i64 x.Id), .v (.int .i64 x.Start), .v (.int .i64 x.End), .v (.bool x.Err), .s o 4 (List.map Attr.cells x.Attrs)]
theorem own_Span (x : Span) : OwnL (Span.cells true x) := ⟨.v _, .v _, .v _, .v _, .v _, ownSl own_Attr _, trivial⟩
theorem frz_Span {o : Bool} (x : Span) : frzL (Span.cells o x) = Span.cells false x := by
  show [T.v (.int .i64 x.Trace), T.v (.int .i64 x.Id), T.v (.int .i64 x.Start), T.v (.int .i64 x.End), T.v (.bool x.Err), T.s false 4 (frzLL (List.map Attr.cells x.Attrs))] = _
  rw [frzMap (f := Attr.cells) (g := Attr.cells) frz_Attr x.Attrs]
  rfl
theorem sh_Span (x : Span) : (Span.cells false x).map T.sh = Span.cells false x := rfl
theorem fz_Span {o : Bool} (x : Span) : (Span.cells o x).map T.fz = Span.cells false x := by
  show [T.v (.int .i64 x.Trace), T.v (.int .i64 x.Id), T.v (.int .i64 x.Start), T.v (.int .i64 x.End), T.v (.bool x.Err), T.s false 4 (frzLL (List.map Attr.cells x.Attrs))] = _
  rw [frzMap (f := Attr.cells) (g := Attr.cells) frz_Attr x.Attrs]
  rfl
def Span.bd (M : Nat) (x : Span) : Prop := bdS Attr.bd M x.Attrs
def Span.rg (x : Span) : Prop := I64 x.Trace ∧ I64 x.Id ∧ I64 x.Start ∧ I64 x.End ∧ True ∧ ((x.Attrs).length ≤ 9223372036854775807 ∧ ∀ y ∈ x.Attrs, Attr.rg y) ∧ True
theorem rg_Span {o : Bool} {x : Span} (h : fitL (Span.cells o x)) : Span.rg x := ⟨(range_of_fit h.1), (range_of_fit h.2.1), (range_of_fit h.2.2.1), (range_of_fit h.2.2.2.1), trivial, ⟨by simpa using h.2.2.2.2.2.1.1, fun y0 hy0 => (rg_Attr (fitLL_map h.2.2.2.2.2.1.2 y0 hy0))⟩, trivial⟩
theorem Span.rg.Trace {x : Span} (h : Span.rg x) : I64 x.Trace := h.1
theorem Span.rg.Id {x : Span} (h : Span.rg x) : I64 x.Id := h.2.1
theorem Span.rg.Start {x : Span} (h : Span.rg x) : I64 x.Start := h.2.2.1
theorem Span.rg.End {x : Span} (h : Span.rg x) : I64 x.End := h.2.2.2.1
theorem Span.rg.Attrs {x : Span} (h : Span.rg x) : ((x.Attrs).length ≤ 9223372036854775807 ∧ ∀ y ∈ x.Attrs, Attr.rg y) := h.2.2.2.2.2.1
structure Trail where
  Id : Int
  Stamp : Int
  First : Int
  Spans : (List Span)
deriving DecidableEq, Inhabited
def Trail.cells (o : Bool) (x : Trail) : List T := [.v (.int .i64 x.Id), .v (.int .i64 x.Stamp), .v (.int .i64 x.First), .s o 6 (List.map (Span.cells o) x.Spans)]
theorem own_Trail (x : Trail) : OwnL (Trail.cells true x) := ⟨.v _, .v _, .v _, ownSl own_Span _, trivial⟩
theorem frz_Trail {o : Bool} (x : Trail) : frzL (Trail.cells o x) = Trail.cells false x := by
  show [T.v (.int .i64 x.Id), T.v (.int .i64 x.Stamp), T.v (.int .i64 x.First), T.s false 6 (frzLL (List.map (Span.cells o) x.Spans))] = _
  rw [frzMap (f := (Span.cells o)) (g := (Span.cells false)) frz_Span x.Spans]
  rfl
theorem sh_Trail (x : Trail) : (Trail.cells false x).map T.sh = Trail.cells false x := rfl
theorem fz_Trail {o : Bool} (x : Trail) : (Trail.cells o x).map T.fz = Trail.cells false x := by
  show [T.v (.int .i64 x.Id), T.v (.int .i64 x.Stamp), T.v (.int .i64 x.First), T.s false 6 (frzLL (List.map (Span.cells o) x.Spans))] = _
  rw [frzMap (f := (Span.cells o)) (g := (Span.cells false)) frz_Span x.Spans]
  rfl
def Trail.bd (M : Nat) (x : Trail) : Prop := bdS Span.bd M x.Spans
def Trail.rg (x : Trail) : Prop := I64 x.Id ∧ I64 x.Stamp ∧ I64 x.First ∧ ((x.Spans).length ≤ 9223372036854775807 ∧ ∀ y ∈ x.Spans, Span.rg y) ∧ True
theorem rg_Trail {o : Bool} {x : Trail} (h : fitL (Trail.cells o x)) : Trail.rg x := ⟨(range_of_fit h.1), (range_of_fit h.2.1), (range_of_fit h.2.2.1), ⟨by simpa using h.2.2.2.1.1, fun y0 hy0 => (rg_Span (fitLL_map h.2.2.2.1.2 y0 hy0))⟩, trivial⟩
theorem Trail.rg.Id {x : Trail} (h : Trail.rg x) : I64 x.Id := h.1
theorem Trail.rg.Stamp {x : Trail} (h : Trail.rg x) : I64 x.Stamp := h.2.1
theorem Trail.rg.First {x : Trail} (h : Trail.rg x) : I64 x.First := h.2.2.1
theorem Trail.rg.Spans {x : Trail} (h : Trail.rg x) : ((x.Spans).length ≤ 9223372036854775807 ∧ ∀ y ∈ x.Spans, Span.rg y) := h.2.2.2.1
structure Stripe where
  Held : Int
  L : (List Trail)
deriving DecidableEq, Inhabited
def Stripe.cells (o : Bool) (x : Stripe) : List T := [.v (.int .i64 x.Held), .s o 4 (List.map (Trail.cells o) x.L)]
theorem own_Stripe (x : Stripe) : OwnL (Stripe.cells true x) := ⟨.v _, ownSl own_Trail _, trivial⟩
theorem frz_Stripe {o : Bool} (x : Stripe) : frzL (Stripe.cells o x) = Stripe.cells false x := by
  show [T.v (.int .i64 x.Held), T.s false 4 (frzLL (List.map (Trail.cells o) x.L))] = _
  rw [frzMap (f := (Trail.cells o)) (g := (Trail.cells false)) frz_Trail x.L]
  rfl
theorem sh_Stripe (x : Stripe) : (Stripe.cells false x).map T.sh = Stripe.cells false x := rfl
theorem fz_Stripe {o : Bool} (x : Stripe) : (Stripe.cells o x).map T.fz = Stripe.cells false x := by
  show [T.v (.int .i64 x.Held), T.s false 4 (frzLL (List.map (Trail.cells o) x.L))] = _
  rw [frzMap (f := (Trail.cells o)) (g := (Trail.cells false)) frz_Trail x.L]
  rfl
def Stripe.bd (M : Nat) (x : Stripe) : Prop := bdS Trail.bd M x.L
def Stripe.rg (x : Stripe) : Prop := I64 x.Held ∧ ((x.L).length ≤ 9223372036854775807 ∧ ∀ y ∈ x.L, Trail.rg y) ∧ True
theorem rg_Stripe {o : Bool} {x : Stripe} (h : fitL (Stripe.cells o x)) : Stripe.rg x := ⟨(range_of_fit h.1), ⟨by simpa using h.2.1.1, fun y0 hy0 => (rg_Trail (fitLL_map h.2.1.2 y0 hy0))⟩, trivial⟩
theorem Stripe.rg.Held {x : Stripe} (h : Stripe.rg x) : I64 x.Held := h.1
theorem Stripe.rg.L {x : Stripe} (h : Stripe.rg x) : ((x.L).length ≤ 9223372036854775807 ∧ ∀ y ∈ x.L, Trail.rg y) := h.2.1
structure Bucket where
  Rate : Int
  Burst : Int
  Tokens : Int
  At : Int
deriving DecidableEq, Inhabited
def Bucket.cells (x : Bucket) : List T := [.v (.int .i64 x.Rate), .v (.int .i64 x.Burst), .v (.int .i64 x.Tokens), .v (.int .i64 x.At)]
theorem own_Bucket (x : Bucket) : OwnL (Bucket.cells x) := ⟨.v _, .v _, .v _, .v _, trivial⟩
theorem frz_Bucket (x : Bucket) : frzL (Bucket.cells x) = Bucket.cells x := rfl
theorem fz_Bucket (x : Bucket) : (Bucket.cells x).map T.fz = Bucket.cells x := rfl
theorem fl_Bucket (x : Bucket) : (Bucket.cells x).map T.flat = Bucket.cells x := rfl
def Bucket.bd (M : Nat) (x : Bucket) : Prop := True
def Bucket.rg (x : Bucket) : Prop := I64 x.Rate ∧ I64 x.Burst ∧ I64 x.Tokens ∧ I64 x.At ∧ True
theorem rg_Bucket {x : Bucket} (h : fitL (Bucket.cells x)) : Bucket.rg x := ⟨(range_of_fit h.1), (range_of_fit h.2.1), (range_of_fit h.2.2.1), (range_of_fit h.2.2.2.1), trivial⟩
theorem Bucket.rg.Rate {x : Bucket} (h : Bucket.rg x) : I64 x.Rate := h.1
theorem Bucket.rg.Burst {x : Bucket} (h : Bucket.rg x) : I64 x.Burst := h.2.1
theorem Bucket.rg.Tokens {x : Bucket} (h : Bucket.rg x) : I64 x.Tokens := h.2.2.1
theorem Bucket.rg.At {x : Bucket} (h : Bucket.rg x) : I64 x.At := h.2.2.2.1
structure Verdict where
  Trace : Int
  Stamp : Int
  Keep : Bool
deriving DecidableEq, Inhabited
def Verdict.cells (x : Verdict) : List T := [.v (.int .i64 x.Trace), .v (.int .i64 x.Stamp), .v (.bool x.Keep)]
theorem own_Verdict (x : Verdict) : OwnL (Verdict.cells x) := ⟨.v _, .v _, .v _, trivial⟩
theorem frz_Verdict (x : Verdict) : frzL (Verdict.cells x) = Verdict.cells x := rfl
theorem fz_Verdict (x : Verdict) : (Verdict.cells x).map T.fz = Verdict.cells x := rfl
theorem fl_Verdict (x : Verdict) : (Verdict.cells x).map T.flat = Verdict.cells x := rfl
def Verdict.bd (M : Nat) (x : Verdict) : Prop := True
def Verdict.rg (x : Verdict) : Prop := I64 x.Trace ∧ I64 x.Stamp ∧ True ∧ True
theorem rg_Verdict {x : Verdict} (h : fitL (Verdict.cells x)) : Verdict.rg x := ⟨(range_of_fit h.1), (range_of_fit h.2.1), trivial, trivial⟩
theorem Verdict.rg.Trace {x : Verdict} (h : Verdict.rg x) : I64 x.Trace := h.1
theorem Verdict.rg.Stamp {x : Verdict} (h : Verdict.rg x) : I64 x.Stamp := h.2.1
structure Timer where
  Id : Int
  Trace : Int
  At : Int
deriving DecidableEq, Inhabited
def Timer.cells (x : Timer) : List T := [.v (.int .i64 x.Id), .v (.int .i64 x.Trace), .v (.int .i64 x.At)]
theorem own_Timer (x : Timer) : OwnL (Timer.cells x) := ⟨.v _, .v _, .v _, trivial⟩
theorem frz_Timer (x : Timer) : frzL (Timer.cells x) = Timer.cells x := rfl
theorem fz_Timer (x : Timer) : (Timer.cells x).map T.fz = Timer.cells x := rfl
theorem fl_Timer (x : Timer) : (Timer.cells x).map T.flat = Timer.cells x := rfl
def Timer.bd (M : Nat) (x : Timer) : Prop := True
def Timer.rg (x : Timer) : Prop := I64 x.Id ∧ I64 x.Trace ∧ I64 x.At ∧ True
theorem rg_Timer {x : Timer} (h : fitL (Timer.cells x)) : Timer.rg x := ⟨(range_of_fit h.1), (range_of_fit h.2.1), (range_of_fit h.2.2.1), trivial⟩
theorem Timer.rg.Id {x : Timer} (h : Timer.rg x) : I64 x.Id := h.1
theorem Timer.rg.Trace {x : Timer} (h : Timer.rg x) : I64 x.Trace := h.2.1
theorem Timer.rg.At {x : Timer} (h : Timer.rg x) : I64 x.At := h.2.2.1
structure Wheel where
  Now : Int
  Near : (List (List Timer))
  Far : (List (List Timer))
  Rest : (List Timer)
deriving DecidableEq, Inhabited
def Wheel.cells (o : Bool) (x : Wheel) : List T := [.v (.int .i64 x.Now), .s o 1 (List.map (cSl o 3 Timer.cells) x.Near), .s o 1 (List.map (cSl o 3 Timer.cells) x.Far), .s o 3 (List.map Timer.cells x.Rest)]
theorem own_Wheel (x : Wheel) : OwnL (Wheel.cells true x) := ⟨.v _, ownSl (own_cSl own_Timer) _, ownSl (own_cSl own_Timer) _, ownSl own_Timer _, trivial⟩
theorem frz_Wheel {o : Bool} (x : Wheel) : frzL (Wheel.cells o x) = Wheel.cells false x := by
  show [T.v (.int .i64 x.Now), T.s false 1 (frzLL (List.map (cSl o 3 Timer.cells) x.Near)), T.s false 1 (frzLL (List.map (cSl o 3 Timer.cells) x.Far)), T.s false 3 (frzLL (List.map Timer.cells x.Rest))] = _
  rw [frzMap (f := (cSl o 3 Timer.cells)) (g := (cSl false 3 Timer.cells)) (frz_cSl frz_Timer) x.Near]
  rw [frzMap (f := (cSl o 3 Timer.cells)) (g := (cSl false 3 Timer.cells)) (frz_cSl frz_Timer) x.Far]
  rw [frzMap (f := Timer.cells) (g := Timer.cells) frz_Timer x.Rest]
  rfl
theorem sh_Wheel (x : Wheel) : (Wheel.cells false x).map T.sh = Wheel.cells false x := rfl
theorem fz_Wheel {o : Bool} (x : Wheel) : (Wheel.cells o x).map T.fz = Wheel.cells false x := by
  show [T.v (.int .i64 x.Now), T.s false 1 (frzLL (List.map (cSl o 3 Timer.cells) x.Near)), T.s false 1 (frzLL (List.map (cSl o 3 Timer.cells) x.Far)), T.s false 3 (frzLL (List.map Timer.cells x.Rest))] = _
  rw [frzMap (f := (cSl o 3 Timer.cells)) (g := (cSl false 3 Timer.cells)) (frz_cSl frz_Timer) x.Near]
  rw [frzMap (f := (cSl o 3 Timer.cells)) (g := (cSl false 3 Timer.cells)) (frz_cSl frz_Timer) x.Far]
  rw [frzMap (f := Timer.cells) (g := Timer.cells) frz_Timer x.Rest]
  rfl
def Wheel.bd (M : Nat) (x : Wheel) : Prop := bdS (bdS Timer.bd) M x.Near ∧ bdS (bdS Timer.bd) M x.Far ∧ bdS Timer.bd M x.Rest
def Wheel.rg (x : Wheel) : Prop := I64 x.Now ∧ ((x.Near).length ≤ 9223372036854775807 ∧ ∀ y ∈ x.Near, ((y).length ≤ 9223372036854775807 ∧ ∀ yy ∈ y, Timer.rg yy)) ∧ ((x.Far).length ≤ 9223372036854775807 ∧ ∀ y ∈ x.Far, ((y).length ≤ 9223372036854775807 ∧ ∀ yy ∈ y, Timer.rg yy)) ∧ ((x.Rest).length ≤ 9223372036854775807 ∧ ∀ y ∈ x.Rest, Timer.rg y) ∧ True
theorem rg_Wheel {o : Bool} {x : Wheel} (h : fitL (Wheel.cells o x)) : Wheel.rg x := ⟨(range_of_fit h.1), ⟨by simpa using h.2.1.1, fun y0 hy0 => ⟨by simpa using (fitLL_map h.2.1.2 y0 hy0).1.1, fun y1 hy1 => (rg_Timer (fitLL_map (fitLL_map h.2.1.2 y0 hy0).1.2 y1 hy1))⟩⟩, ⟨by simpa using h.2.2.1.1, fun y0 hy0 => ⟨by simpa using (fitLL_map h.2.2.1.2 y0 hy0).1.1, fun y1 hy1 => (rg_Timer (fitLL_map (fitLL_map h.2.2.1.2 y0 hy0).1.2 y1 hy1))⟩⟩, ⟨by simpa using h.2.2.2.1.1, fun y0 hy0 => (rg_Timer (fitLL_map h.2.2.2.1.2 y0 hy0))⟩, trivial⟩
theorem Wheel.rg.Now {x : Wheel} (h : Wheel.rg x) : I64 x.Now := h.1
theorem Wheel.rg.Near {x : Wheel} (h : Wheel.rg x) : ((x.Near).length ≤ 9223372036854775807 ∧ ∀ y ∈ x.Near, ((y).length ≤ 9223372036854775807 ∧ ∀ yy ∈ y, Timer.rg yy)) := h.2.1
theorem Wheel.rg.Far {x : Wheel} (h : Wheel.rg x) : ((x.Far).length ≤ 9223372036854775807 ∧ ∀ y ∈ x.Far, ((y).length ≤ 9223372036854775807 ∧ ∀ yy ∈ y, Timer.rg yy)) := h.2.2.1
theorem Wheel.rg.Rest {x : Wheel} (h : Wheel.rg x) : ((x.Rest).length ≤ 9223372036854775807 ∧ ∀ y ∈ x.Rest, Timer.rg y) := h.2.2.2.1
structure Item where
  Stamp : Int
  S : Span
deriving DecidableEq, Inhabited
def Item.cells (o : Bool) (x : Item) : List T := [.v (.int .i64 x.Stamp), .v (.int .i64 x.S.Trace), .v (.int .i64 x.S.Id), .v (.int .i64 x.S.Start), .v (.int .i64 x.S.End), .v (.bool x.S.Err), .s o 4 (List.map Attr.cells x.S.Attrs)]
theorem own_Item (x : Item) : OwnL (Item.cells true x) := ⟨.v _, .v _, .v _, .v _, .v _, .v _, ownSl own_Attr _, trivial⟩
theorem frz_Item {o : Bool} (x : Item) : frzL (Item.cells o x) = Item.cells false x := by
  show [T.v (.int .i64 x.Stamp), T.v (.int .i64 x.S.Trace), T.v (.int .i64 x.S.Id), T.v (.int .i64 x.S.Start), T.v (.int .i64 x.S.End), T.v (.bool x.S.Err), T.s false 4 (frzLL (List.map Attr.cells x.S.Attrs))] = _
  rw [frzMap (f := Attr.cells) (g := Attr.cells) frz_Attr x.S.Attrs]
  rfl
theorem sh_Item (x : Item) : (Item.cells false x).map T.sh = Item.cells false x := rfl
theorem fz_Item {o : Bool} (x : Item) : (Item.cells o x).map T.fz = Item.cells false x := by
  show [T.v (.int .i64 x.Stamp), T.v (.int .i64 x.S.Trace), T.v (.int .i64 x.S.Id), T.v (.int .i64 x.S.Start), T.v (.int .i64 x.S.End), T.v (.bool x.S.Err), T.s false 4 (frzLL (List.map Attr.cells x.S.Attrs))] = _
  rw [frzMap (f := Attr.cells) (g := Attr.cells) frz_Attr x.S.Attrs]
  rfl
def Item.bd (M : Nat) (x : Item) : Prop := Span.bd M x.S
def Item.rg (x : Item) : Prop := I64 x.Stamp ∧ I64 x.S.Trace ∧ I64 x.S.Id ∧ I64 x.S.Start ∧ I64 x.S.End ∧ True ∧ ((x.S.Attrs).length ≤ 9223372036854775807 ∧ ∀ y ∈ x.S.Attrs, Attr.rg y) ∧ True
theorem rg_Item {o : Bool} {x : Item} (h : fitL (Item.cells o x)) : Item.rg x := ⟨(range_of_fit h.1), (range_of_fit h.2.1), (range_of_fit h.2.2.1), (range_of_fit h.2.2.2.1), (range_of_fit h.2.2.2.2.1), trivial, ⟨by simpa using h.2.2.2.2.2.2.1.1, fun y0 hy0 => (rg_Attr (fitLL_map h.2.2.2.2.2.2.1.2 y0 hy0))⟩, trivial⟩
theorem Item.rg.Stamp {x : Item} (h : Item.rg x) : I64 x.Stamp := h.1
theorem Item.rg.S {x : Item} (h : Item.rg x) : Span.rg x.S := ⟨h.2.1, h.2.2.1, h.2.2.2.1, h.2.2.2.2.1, h.2.2.2.2.2.1, h.2.2.2.2.2.2.1, trivial⟩
structure Task where
  Op : Int
  Pc : Int
  S : Span
  Trace : Int
  Stamp : Int
  Hand : (List Item)
  H : Int
deriving DecidableEq, Inhabited
def Task.cells (o : Bool) (x : Task) : List T := [.v (.int .i64 x.Op), .v (.int .i64 x.Pc), .v (.int .i64 x.S.Trace), .v (.int .i64 x.S.Id), .v (.int .i64 x.S.Start), .v (.int .i64 x.S.End), .v (.bool x.S.Err), .s o 4 (List.map Attr.cells x.S.Attrs), .v (.int .i64 x.Trace), .v (.int .i64 x.Stamp), .s o 7 (List.map (Item.cells o) x.Hand), .v (.int .i64 x.H)]
theorem own_Task (x : Task) : OwnL (Task.cells true x) := ⟨.v _, .v _, .v _, .v _, .v _, .v _, .v _, ownSl own_Attr _, .v _, .v _, ownSl own_Item _, .v _, trivial⟩
theorem frz_Task {o : Bool} (x : Task) : frzL (Task.cells o x) = Task.cells false x := by
  show [T.v (.int .i64 x.Op), T.v (.int .i64 x.Pc), T.v (.int .i64 x.S.Trace), T.v (.int .i64 x.S.Id), T.v (.int .i64 x.S.Start), T.v (.int .i64 x.S.End), T.v (.bool x.S.Err), T.s false 4 (frzLL (List.map Attr.cells x.S.Attrs)), T.v (.int .i64 x.Trace), T.v (.int .i64 x.Stamp), T.s false 7 (frzLL (List.map (Item.cells o) x.Hand)), T.v (.int .i64 x.H)] = _
  rw [frzMap (f := Attr.cells) (g := Attr.cells) frz_Attr x.S.Attrs]
  rw [frzMap (f := (Item.cells o)) (g := (Item.cells false)) frz_Item x.Hand]
  rfl
theorem sh_Task (x : Task) : (Task.cells false x).map T.sh = Task.cells false x := rfl
theorem fz_Task {o : Bool} (x : Task) : (Task.cells o x).map T.fz = Task.cells false x := by
  show [T.v (.int .i64 x.Op), T.v (.int .i64 x.Pc), T.v (.int .i64 x.S.Trace), T.v (.int .i64 x.S.Id), T.v (.int .i64 x.S.Start), T.v (.int .i64 x.S.End), T.v (.bool x.S.Err), T.s false 4 (frzLL (List.map Attr.cells x.S.Attrs)), T.v (.int .i64 x.Trace), T.v (.int .i64 x.Stamp), T.s false 7 (frzLL (List.map (Item.cells o) x.Hand)), T.v (.int .i64 x.H)] = _
  rw [frzMap (f := Attr.cells) (g := Attr.cells) frz_Attr x.S.Attrs]
  rw [frzMap (f := (Item.cells o)) (g := (Item.cells false)) frz_Item x.Hand]
  rfl
def Task.bd (M : Nat) (x : Task) : Prop := Span.bd M x.S ∧ bdS Item.bd M x.Hand
def Task.rg (x : Task) : Prop := I64 x.Op ∧ I64 x.Pc ∧ I64 x.S.Trace ∧ I64 x.S.Id ∧ I64 x.S.Start ∧ I64 x.S.End ∧ True ∧ ((x.S.Attrs).length ≤ 9223372036854775807 ∧ ∀ y ∈ x.S.Attrs, Attr.rg y) ∧ I64 x.Trace ∧ I64 x.Stamp ∧ ((x.Hand).length ≤ 9223372036854775807 ∧ ∀ y ∈ x.Hand, Item.rg y) ∧ I64 x.H ∧ True
theorem rg_Task {o : Bool} {x : Task} (h : fitL (Task.cells o x)) : Task.rg x := ⟨(range_of_fit h.1), (range_of_fit h.2.1), (range_of_fit h.2.2.1), (range_of_fit h.2.2.2.1), (range_of_fit h.2.2.2.2.1), (range_of_fit h.2.2.2.2.2.1), trivial, ⟨by simpa using h.2.2.2.2.2.2.2.1.1, fun y0 hy0 => (rg_Attr (fitLL_map h.2.2.2.2.2.2.2.1.2 y0 hy0))⟩, (range_of_fit h.2.2.2.2.2.2.2.2.1), (range_of_fit h.2.2.2.2.2.2.2.2.2.1), ⟨by simpa using h.2.2.2.2.2.2.2.2.2.2.1.1, fun y0 hy0 => (rg_Item (fitLL_map h.2.2.2.2.2.2.2.2.2.2.1.2 y0 hy0))⟩, (range_of_fit h.2.2.2.2.2.2.2.2.2.2.2.1), trivial⟩
theorem Task.rg.Op {x : Task} (h : Task.rg x) : I64 x.Op := h.1
theorem Task.rg.Pc {x : Task} (h : Task.rg x) : I64 x.Pc := h.2.1
theorem Task.rg.S {x : Task} (h : Task.rg x) : Span.rg x.S := ⟨h.2.2.1, h.2.2.2.1, h.2.2.2.2.1, h.2.2.2.2.2.1, h.2.2.2.2.2.2.1, h.2.2.2.2.2.2.2.1, trivial⟩
theorem Task.rg.Trace {x : Task} (h : Task.rg x) : I64 x.Trace := h.2.2.2.2.2.2.2.2.1
theorem Task.rg.Stamp {x : Task} (h : Task.rg x) : I64 x.Stamp := h.2.2.2.2.2.2.2.2.2.1
theorem Task.rg.Hand {x : Task} (h : Task.rg x) : ((x.Hand).length ≤ 9223372036854775807 ∧ ∀ y ∈ x.Hand, Item.rg y) := h.2.2.2.2.2.2.2.2.2.2.1
theorem Task.rg.H {x : Task} (h : Task.rg x) : I64 x.H := h.2.2.2.2.2.2.2.2.2.2.2.1
structure Deed where
  Op : Int
  Task : Int
  S : Span
  Trace : Int
  Stamp : Int
  Code : Int
  Keep : Bool
  Void : Bool
  Took : Int
  N : Int
  Forgot : Int
  Now : Int
  Inv : Int
  Lin : Int
  Res : Int
deriving DecidableEq, Inhabited
def Deed.cells (o : Bool) (x : Deed) : List T := [.v (.int .i64 x.Op), .v (.int .i64 x.Task), .v (.int .i64 x.S.Trace), .v (.int .i64 x.S.Id), .v (.int .i64 x.S.Start), .v (.int .i64 x.S.End), .v (.bool x.S.Err), .s o 4 (List.map Attr.cells x.S.Attrs), .v (.int .i64 x.Trace), .v (.int .i64 x.Stamp), .v (.int .i64 x.Code), .v (.bool x.Keep), .v (.bool x.Void), .v (.int .i64 x.Took), .v (.int .i64 x.N), .v (.int .i64 x.Forgot), .v (.int .i64 x.Now), .v (.int .i64 x.Inv), .v (.int .i64 x.Lin), .v (.int .i64 x.Res)]
theorem own_Deed (x : Deed) : OwnL (Deed.cells true x) := ⟨.v _, .v _, .v _, .v _, .v _, .v _, .v _, ownSl own_Attr _, .v _, .v _, .v _, .v _, .v _, .v _, .v _, .v _, .v _, .v _, .v _, .v _, trivial⟩
theorem frz_Deed {o : Bool} (x : Deed) : frzL (Deed.cells o x) = Deed.cells false x := by
  show [T.v (.int .i64 x.Op), T.v (.int .i64 x.Task), T.v (.int .i64 x.S.Trace), T.v (.int .i64 x.S.Id), T.v (.int .i64 x.S.Start), T.v (.int .i64 x.S.End), T.v (.bool x.S.Err), T.s false 4 (frzLL (List.map Attr.cells x.S.Attrs)), T.v (.int .i64 x.Trace), T.v (.int .i64 x.Stamp), T.v (.int .i64 x.Code), T.v (.bool x.Keep), T.v (.bool x.Void), T.v (.int .i64 x.Took), T.v (.int .i64 x.N), T.v (.int .i64 x.Forgot), T.v (.int .i64 x.Now), T.v (.int .i64 x.Inv), T.v (.int .i64 x.Lin), T.v (.int .i64 x.Res)] = _
  rw [frzMap (f := Attr.cells) (g := Attr.cells) frz_Attr x.S.Attrs]
  rfl
theorem sh_Deed (x : Deed) : (Deed.cells false x).map T.sh = Deed.cells false x := rfl
theorem fz_Deed {o : Bool} (x : Deed) : (Deed.cells o x).map T.fz = Deed.cells false x := by
  show [T.v (.int .i64 x.Op), T.v (.int .i64 x.Task), T.v (.int .i64 x.S.Trace), T.v (.int .i64 x.S.Id), T.v (.int .i64 x.S.Start), T.v (.int .i64 x.S.End), T.v (.bool x.S.Err), T.s false 4 (frzLL (List.map Attr.cells x.S.Attrs)), T.v (.int .i64 x.Trace), T.v (.int .i64 x.Stamp), T.v (.int .i64 x.Code), T.v (.bool x.Keep), T.v (.bool x.Void), T.v (.int .i64 x.Took), T.v (.int .i64 x.N), T.v (.int .i64 x.Forgot), T.v (.int .i64 x.Now), T.v (.int .i64 x.Inv), T.v (.int .i64 x.Lin), T.v (.int .i64 x.Res)] = _
  rw [frzMap (f := Attr.cells) (g := Attr.cells) frz_Attr x.S.Attrs]
  rfl
def Deed.bd (M : Nat) (x : Deed) : Prop := Span.bd M x.S
def Deed.rg (x : Deed) : Prop := I64 x.Op ∧ I64 x.Task ∧ I64 x.S.Trace ∧ I64 x.S.Id ∧ I64 x.S.Start ∧ I64 x.S.End ∧ True ∧ ((x.S.Attrs).length ≤ 9223372036854775807 ∧ ∀ y ∈ x.S.Attrs, Attr.rg y) ∧ I64 x.Trace ∧ I64 x.Stamp ∧ I64 x.Code ∧ True ∧ True ∧ I64 x.Took ∧ I64 x.N ∧ I64 x.Forgot ∧ I64 x.Now ∧ I64 x.Inv ∧ I64 x.Lin ∧ I64 x.Res ∧ True
theorem rg_Deed {o : Bool} {x : Deed} (h : fitL (Deed.cells o x)) : Deed.rg x := ⟨(range_of_fit h.1), (range_of_fit h.2.1), (range_of_fit h.2.2.1), (range_of_fit h.2.2.2.1), (range_of_fit h.2.2.2.2.1), (range_of_fit h.2.2.2.2.2.1), trivial, ⟨by simpa using h.2.2.2.2.2.2.2.1.1, fun y0 hy0 => (rg_Attr (fitLL_map h.2.2.2.2.2.2.2.1.2 y0 hy0))⟩, (range_of_fit h.2.2.2.2.2.2.2.2.1), (range_of_fit h.2.2.2.2.2.2.2.2.2.1), (range_of_fit h.2.2.2.2.2.2.2.2.2.2.1), trivial, trivial, (range_of_fit h.2.2.2.2.2.2.2.2.2.2.2.2.2.1), (range_of_fit h.2.2.2.2.2.2.2.2.2.2.2.2.2.2.1), (range_of_fit h.2.2.2.2.2.2.2.2.2.2.2.2.2.2.2.1), (range_of_fit h.2.2.2.2.2.2.2.2.2.2.2.2.2.2.2.2.1), (range_of_fit h.2.2.2.2.2.2.2.2.2.2.2.2.2.2.2.2.2.1), (range_of_fit h.2.2.2.2.2.2.2.2.2.2.2.2.2.2.2.2.2.2.1), (range_of_fit h.2.2.2.2.2.2.2.2.2.2.2.2.2.2.2.2.2.2.2.1), trivial⟩
theorem Deed.rg.Op {x : Deed} (h : Deed.rg x) : I64 x.Op := h.1
theorem Deed.rg.Task {x : Deed} (h : Deed.rg x) : I64 x.Task := h.2.1
theorem Deed.rg.S {x : Deed} (h : Deed.rg x) : Span.rg x.S := ⟨h.2.2.1, h.2.2.2.1, h.2.2.2.2.1, h.2.2.2.2.2.1, h.2.2.2.2.2.2.1, h.2.2.2.2.2.2.2.1, trivial⟩
theorem Deed.rg.Trace {x : Deed} (h : Deed.rg x) : I64 x.Trace := h.2.2.2.2.2.2.2.2.1
theorem Deed.rg.Stamp {x : Deed} (h : Deed.rg x) : I64 x.Stamp := h.2.2.2.2.2.2.2.2.2.1
theorem Deed.rg.Code {x : Deed} (h : Deed.rg x) : I64 x.Code := h.2.2.2.2.2.2.2.2.2.2.1
theorem Deed.rg.Took {x : Deed} (h : Deed.rg x) : I64 x.Took := h.2.2.2.2.2.2.2.2.2.2.2.2.2.1
theorem Deed.rg.N {x : Deed} (h : Deed.rg x) : I64 x.N := h.2.2.2.2.2.2.2.2.2.2.2.2.2.2.1
theorem Deed.rg.Forgot {x : Deed} (h : Deed.rg x) : I64 x.Forgot := h.2.2.2.2.2.2.2.2.2.2.2.2.2.2.2.1
theorem Deed.rg.Now {x : Deed} (h : Deed.rg x) : I64 x.Now := h.2.2.2.2.2.2.2.2.2.2.2.2.2.2.2.2.1
theorem Deed.rg.Inv {x : Deed} (h : Deed.rg x) : I64 x.Inv := h.2.2.2.2.2.2.2.2.2.2.2.2.2.2.2.2.2.1
theorem Deed.rg.Lin {x : Deed} (h : Deed.rg x) : I64 x.Lin := h.2.2.2.2.2.2.2.2.2.2.2.2.2.2.2.2.2.2.1
theorem Deed.rg.Res {x : Deed} (h : Deed.rg x) : I64 x.Res := h.2.2.2.2.2.2.2.2.2.2.2.2.2.2.2.2.2.2.2.1
structure World where
  C : Conf
  Time : Int
  Shut : Bool
  St : (List Stripe)
  RuleHeld : Int
  B : Bucket
  Cache : (List Verdict)
  Used : Int
  W : Wheel
  Due : (List Timer)
  Queue : (List Item)
  Out : (List Item)
  Tasks : (List Task)
  Deeds : (List Deed)
  Next : Int
deriving Inhabited
def World.cells (o : Bool) (x : World) : List T := [.v (.int .i64 x.C.Stripes), .v (.int .i64 x.C.Wait), .v (.int .i64 x.C.Budget), .v (.int .i64 x.C.Cache), .v (.int .i64 x.C.Queue), .v (.int .i64 x.C.Rate), .v (.int .i64 x.C.Burst), .v (.int .i64 x.C.Rule.Kind), .v (.int .i64 x.C.Rule.N), .v (.string x.C.Rule.Key), .v (.string x.C.Rule.Text), .s o 5 (List.map (Pol.cells o) x.C.Rule.L), .v (.int .i64 x.Time), .v (.bool x.Shut), .s o 2 (List.map (Stripe.cells o) x.St), .v (.int .i64 x.RuleHeld), .v (.int .i64 x.B.Rate), .v (.int .i64 x.B.Burst), .v (.int .i64 x.B.Tokens), .v (.int .i64 x.B.At), .s o 3 (List.map Verdict.cells x.Cache), .v (.int .i64 x.Used), .v (.int .i64 x.W.Now), .s o 1 (List.map (cSl o 3 Timer.cells) x.W.Near), .s o 1 (List.map (cSl o 3 Timer.cells) x.W.Far), .s o 3 (List.map Timer.cells x.W.Rest), .s o 3 (List.map Timer.cells x.Due), .s o 7 (List.map (Item.cells o) x.Queue), .s o 7 (List.map (Item.cells o) x.Out), .s o 12 (List.map (Task.cells o) x.Tasks), .s o 20 (List.map (Deed.cells o) x.Deeds), .v (.int .i64 x.Next)]
theorem own_World (x : World) : OwnL (World.cells true x) := ⟨.v _, .v _, .v _, .v _, .v _, .v _, .v _, .v _, .v _, .v _, .v _, ownSl own_Pol _, .v _, .v _, ownSl own_Stripe _, .v _, .v _, .v _, .v _, .v _, ownSl own_Verdict _, .v _, .v _, ownSl (own_cSl own_Timer) _, ownSl (own_cSl own_Timer) _, ownSl own_Timer _, ownSl own_Timer _, ownSl own_Item _, ownSl own_Item _, ownSl own_Task _, ownSl own_Deed _, .v _, trivial⟩
theorem frz_World {o : Bool} (x : World) : frzL (World.cells o x) = World.cells false x := by
  show [T.v (.int .i64 x.C.Stripes), T.v (.int .i64 x.C.Wait), T.v (.int .i64 x.C.Budget), T.v (.int .i64 x.C.Cache), T.v (.int .i64 x.C.Queue), T.v (.int .i64 x.C.Rate), T.v (.int .i64 x.C.Burst), T.v (.int .i64 x.C.Rule.Kind), T.v (.int .i64 x.C.Rule.N), T.v (.string x.C.Rule.Key), T.v (.string x.C.Rule.Text), T.s false 5 (frzLL (List.map (Pol.cells o) x.C.Rule.L)), T.v (.int .i64 x.Time), T.v (.bool x.Shut), T.s false 2 (frzLL (List.map (Stripe.cells o) x.St)), T.v (.int .i64 x.RuleHeld), T.v (.int .i64 x.B.Rate), T.v (.int .i64 x.B.Burst), T.v (.int .i64 x.B.Tokens), T.v (.int .i64 x.B.At), T.s false 3 (frzLL (List.map Verdict.cells x.Cache)), T.v (.int .i64 x.Used), T.v (.int .i64 x.W.Now), T.s false 1 (frzLL (List.map (cSl o 3 Timer.cells) x.W.Near)), T.s false 1 (frzLL (List.map (cSl o 3 Timer.cells) x.W.Far)), T.s false 3 (frzLL (List.map Timer.cells x.W.Rest)), T.s false 3 (frzLL (List.map Timer.cells x.Due)), T.s false 7 (frzLL (List.map (Item.cells o) x.Queue)), T.s false 7 (frzLL (List.map (Item.cells o) x.Out)), T.s false 12 (frzLL (List.map (Task.cells o) x.Tasks)), T.s false 20 (frzLL (List.map (Deed.cells o) x.Deeds)), T.v (.int .i64 x.Next)] = _
  rw [frzMap (f := (Pol.cells o)) (g := (Pol.cells false)) frz_Pol x.C.Rule.L]
  rw [frzMap (f := (Stripe.cells o)) (g := (Stripe.cells false)) frz_Stripe x.St]
  rw [frzMap (f := Verdict.cells) (g := Verdict.cells) frz_Verdict x.Cache]
  rw [frzMap (f := (cSl o 3 Timer.cells)) (g := (cSl false 3 Timer.cells)) (frz_cSl frz_Timer) x.W.Near]
  rw [frzMap (f := (cSl o 3 Timer.cells)) (g := (cSl false 3 Timer.cells)) (frz_cSl frz_Timer) x.W.Far]
  rw [frzMap (f := Timer.cells) (g := Timer.cells) frz_Timer x.W.Rest]
  rw [frzMap (f := Timer.cells) (g := Timer.cells) frz_Timer x.Due]
  rw [frzMap (f := (Item.cells o)) (g := (Item.cells false)) frz_Item x.Queue]
  rw [frzMap (f := (Item.cells o)) (g := (Item.cells false)) frz_Item x.Out]
  rw [frzMap (f := (Task.cells o)) (g := (Task.cells false)) frz_Task x.Tasks]
  rw [frzMap (f := (Deed.cells o)) (g := (Deed.cells false)) frz_Deed x.Deeds]
  rfl
theorem sh_World (x : World) : (World.cells false x).map T.sh = World.cells false x := rfl
theorem fz_World {o : Bool} (x : World) : (World.cells o x).map T.fz = World.cells false x := by
  show [T.v (.int .i64 x.C.Stripes), T.v (.int .i64 x.C.Wait), T.v (.int .i64 x.C.Budget), T.v (.int .i64 x.C.Cache), T.v (.int .i64 x.C.Queue), T.v (.int .i64 x.C.Rate), T.v (.int .i64 x.C.Burst), T.v (.int .i64 x.C.Rule.Kind), T.v (.int .i64 x.C.Rule.N), T.v (.string x.C.Rule.Key), T.v (.string x.C.Rule.Text), T.s false 5 (frzLL (List.map (Pol.cells o) x.C.Rule.L)), T.v (.int .i64 x.Time), T.v (.bool x.Shut), T.s false 2 (frzLL (List.map (Stripe.cells o) x.St)), T.v (.int .i64 x.RuleHeld), T.v (.int .i64 x.B.Rate), T.v (.int .i64 x.B.Burst), T.v (.int .i64 x.B.Tokens), T.v (.int .i64 x.B.At), T.s false 3 (frzLL (List.map Verdict.cells x.Cache)), T.v (.int .i64 x.Used), T.v (.int .i64 x.W.Now), T.s false 1 (frzLL (List.map (cSl o 3 Timer.cells) x.W.Near)), T.s false 1 (frzLL (List.map (cSl o 3 Timer.cells) x.W.Far)), T.s false 3 (frzLL (List.map Timer.cells x.W.Rest)), T.s false 3 (frzLL (List.map Timer.cells x.Due)), T.s false 7 (frzLL (List.map (Item.cells o) x.Queue)), T.s false 7 (frzLL (List.map (Item.cells o) x.Out)), T.s false 12 (frzLL (List.map (Task.cells o) x.Tasks)), T.s false 20 (frzLL (List.map (Deed.cells o) x.Deeds)), T.v (.int .i64 x.Next)] = _
  rw [frzMap (f := (Pol.cells o)) (g := (Pol.cells false)) frz_Pol x.C.Rule.L]
  rw [frzMap (f := (Stripe.cells o)) (g := (Stripe.cells false)) frz_Stripe x.St]
  rw [frzMap (f := Verdict.cells) (g := Verdict.cells) frz_Verdict x.Cache]
  rw [frzMap (f := (cSl o 3 Timer.cells)) (g := (cSl false 3 Timer.cells)) (frz_cSl frz_Timer) x.W.Near]
  rw [frzMap (f := (cSl o 3 Timer.cells)) (g := (cSl false 3 Timer.cells)) (frz_cSl frz_Timer) x.W.Far]
  rw [frzMap (f := Timer.cells) (g := Timer.cells) frz_Timer x.W.Rest]
  rw [frzMap (f := Timer.cells) (g := Timer.cells) frz_Timer x.Due]
  rw [frzMap (f := (Item.cells o)) (g := (Item.cells false)) frz_Item x.Queue]
  rw [frzMap (f := (Item.cells o)) (g := (Item.cells false)) frz_Item x.Out]
  rw [frzMap (f := (Task.cells o)) (g := (Task.cells false)) frz_Task x.Tasks]
  rw [frzMap (f := (Deed.cells o)) (g := (Deed.cells false)) frz_Deed x.Deeds]
  rfl
def World.bd (M : Nat) (x : World) : Prop := Conf.bd M x.C ∧ bdS Stripe.bd M x.St ∧ bdS Verdict.bd M x.Cache ∧ Wheel.bd M x.W ∧ bdS Timer.bd M x.Due ∧ bdS Item.bd M x.Queue ∧ bdS Item.bd M x.Out ∧ bdS Task.bd M x.Tasks ∧ bdS Deed.bd M x.Deeds
def World.rg (x : World) : Prop := I64 x.C.Stripes ∧ I64 x.C.Wait ∧ I64 x.C.Budget ∧ I64 x.C.Cache ∧ I64 x.C.Queue ∧ I64 x.C.Rate ∧ I64 x.C.Burst ∧ I64 x.C.Rule.Kind ∧ I64 x.C.Rule.N ∧ (x.C.Rule.Key).size ≤ 9223372036854775807 ∧ (x.C.Rule.Text).size ≤ 9223372036854775807 ∧ ((x.C.Rule.L).length ≤ 9223372036854775807 ∧ ∀ y ∈ x.C.Rule.L, True) ∧ I64 x.Time ∧ True ∧ ((x.St).length ≤ 9223372036854775807 ∧ ∀ y ∈ x.St, Stripe.rg y) ∧ I64 x.RuleHeld ∧ I64 x.B.Rate ∧ I64 x.B.Burst ∧ I64 x.B.Tokens ∧ I64 x.B.At ∧ ((x.Cache).length ≤ 9223372036854775807 ∧ ∀ y ∈ x.Cache, Verdict.rg y) ∧ I64 x.Used ∧ I64 x.W.Now ∧ ((x.W.Near).length ≤ 9223372036854775807 ∧ ∀ y ∈ x.W.Near, ((y).length ≤ 9223372036854775807 ∧ ∀ yy ∈ y, Timer.rg yy)) ∧ ((x.W.Far).length ≤ 9223372036854775807 ∧ ∀ y ∈ x.W.Far, ((y).length ≤ 9223372036854775807 ∧ ∀ yy ∈ y, Timer.rg yy)) ∧ ((x.W.Rest).length ≤ 9223372036854775807 ∧ ∀ y ∈ x.W.Rest, Timer.rg y) ∧ ((x.Due).length ≤ 9223372036854775807 ∧ ∀ y ∈ x.Due, Timer.rg y) ∧ ((x.Queue).length ≤ 9223372036854775807 ∧ ∀ y ∈ x.Queue, Item.rg y) ∧ ((x.Out).length ≤ 9223372036854775807 ∧ ∀ y ∈ x.Out, Item.rg y) ∧ ((x.Tasks).length ≤ 9223372036854775807 ∧ ∀ y ∈ x.Tasks, Task.rg y) ∧ ((x.Deeds).length ≤ 9223372036854775807 ∧ ∀ y ∈ x.Deeds, Deed.rg y) ∧ I64 x.Next ∧ True
theorem rg_World {o : Bool} {x : World} (h : fitL (World.cells o x)) : World.rg x := ⟨(range_of_fit h.1), (range_of_fit h.2.1), (range_of_fit h.2.2.1), (range_of_fit h.2.2.2.1), (range_of_fit h.2.2.2.2.1), (range_of_fit h.2.2.2.2.2.1), (range_of_fit h.2.2.2.2.2.2.1), (range_of_fit h.2.2.2.2.2.2.2.1), (range_of_fit h.2.2.2.2.2.2.2.2.1), (Nat.le_of_ble_eq_true h.2.2.2.2.2.2.2.2.2.1), (Nat.le_of_ble_eq_true h.2.2.2.2.2.2.2.2.2.2.1), ⟨by simpa using h.2.2.2.2.2.2.2.2.2.2.2.1.1, fun y0 hy0 => trivial⟩, (range_of_fit h.2.2.2.2.2.2.2.2.2.2.2.2.1), trivial, ⟨by simpa using h.2.2.2.2.2.2.2.2.2.2.2.2.2.2.1.1, fun y0 hy0 => (rg_Stripe (fitLL_map h.2.2.2.2.2.2.2.2.2.2.2.2.2.2.1.2 y0 hy0))⟩, (range_of_fit h.2.2.2.2.2.2.2.2.2.2.2.2.2.2.2.1), (range_of_fit h.2.2.2.2.2.2.2.2.2.2.2.2.2.2.2.2.1), (range_of_fit h.2.2.2.2.2.2.2.2.2.2.2.2.2.2.2.2.2.1), (range_of_fit h.2.2.2.2.2.2.2.2.2.2.2.2.2.2.2.2.2.2.1), (range_of_fit h.2.2.2.2.2.2.2.2.2.2.2.2.2.2.2.2.2.2.2.1), ⟨by simpa using h.2.2.2.2.2.2.2.2.2.2.2.2.2.2.2.2.2.2.2.2.1.1, fun y0 hy0 => (rg_Verdict (fitLL_map h.2.2.2.2.2.2.2.2.2.2.2.2.2.2.2.2.2.2.2.2.1.2 y0 hy0))⟩, (range_of_fit h.2.2.2.2.2.2.2.2.2.2.2.2.2.2.2.2.2.2.2.2.2.1), (range_of_fit h.2.2.2.2.2.2.2.2.2.2.2.2.2.2.2.2.2.2.2.2.2.2.1), ⟨by simpa using h.2.2.2.2.2.2.2.2.2.2.2.2.2.2.2.2.2.2.2.2.2.2.2.1.1, fun y0 hy0 => ⟨by simpa using (fitLL_map h.2.2.2.2.2.2.2.2.2.2.2.2.2.2.2.2.2.2.2.2.2.2.2.1.2 y0 hy0).1.1, fun y1 hy1 => (rg_Timer (fitLL_map (fitLL_map h.2.2.2.2.2.2.2.2.2.2.2.2.2.2.2.2.2.2.2.2.2.2.2.1.2 y0 hy0).1.2 y1 hy1))⟩⟩, ⟨by simpa using h.2.2.2.2.2.2.2.2.2.2.2.2.2.2.2.2.2.2.2.2.2.2.2.2.1.1, fun y0 hy0 => ⟨by simpa using (fitLL_map h.2.2.2.2.2.2.2.2.2.2.2.2.2.2.2.2.2.2.2.2.2.2.2.2.1.2 y0 hy0).1.1, fun y1 hy1 => (rg_Timer (fitLL_map (fitLL_map h.2.2.2.2.2.2.2.2.2.2.2.2.2.2.2.2.2.2.2.2.2.2.2.2.1.2 y0 hy0).1.2 y1 hy1))⟩⟩, ⟨by simpa using h.2.2.2.2.2.2.2.2.2.2.2.2.2.2.2.2.2.2.2.2.2.2.2.2.2.1.1, fun y0 hy0 => (rg_Timer (fitLL_map h.2.2.2.2.2.2.2.2.2.2.2.2.2.2.2.2.2.2.2.2.2.2.2.2.2.1.2 y0 hy0))⟩, ⟨by simpa using h.2.2.2.2.2.2.2.2.2.2.2.2.2.2.2.2.2.2.2.2.2.2.2.2.2.2.1.1, fun y0 hy0 => (rg_Timer (fitLL_map h.2.2.2.2.2.2.2.2.2.2.2.2.2.2.2.2.2.2.2.2.2.2.2.2.2.2.1.2 y0 hy0))⟩, ⟨by simpa using h.2.2.2.2.2.2.2.2.2.2.2.2.2.2.2.2.2.2.2.2.2.2.2.2.2.2.2.1.1, fun y0 hy0 => (rg_Item (fitLL_map h.2.2.2.2.2.2.2.2.2.2.2.2.2.2.2.2.2.2.2.2.2.2.2.2.2.2.2.1.2 y0 hy0))⟩, ⟨by simpa using h.2.2.2.2.2.2.2.2.2.2.2.2.2.2.2.2.2.2.2.2.2.2.2.2.2.2.2.2.1.1, fun y0 hy0 => (rg_Item (fitLL_map h.2.2.2.2.2.2.2.2.2.2.2.2.2.2.2.2.2.2.2.2.2.2.2.2.2.2.2.2.1.2 y0 hy0))⟩, ⟨by simpa using h.2.2.2.2.2.2.2.2.2.2.2.2.2.2.2.2.2.2.2.2.2.2.2.2.2.2.2.2.2.1.1, fun y0 hy0 => (rg_Task (fitLL_map h.2.2.2.2.2.2.2.2.2.2.2.2.2.2.2.2.2.2.2.2.2.2.2.2.2.2.2.2.2.1.2 y0 hy0))⟩, ⟨by simpa using h.2.2.2.2.2.2.2.2.2.2.2.2.2.2.2.2.2.2.2.2.2.2.2.2.2.2.2.2.2.2.1.1, fun y0 hy0 => (rg_Deed (fitLL_map h.2.2.2.2.2.2.2.2.2.2.2.2.2.2.2.2.2.2.2.2.2.2.2.2.2.2.2.2.2.2.1.2 y0 hy0))⟩, (range_of_fit h.2.2.2.2.2.2.2.2.2.2.2.2.2.2.2.2.2.2.2.2.2.2.2.2.2.2.2.2.2.2.2.1), trivial⟩
theorem World.rg.C {x : World} (h : World.rg x) : Conf.rg x.C := ⟨h.1, h.2.1, h.2.2.1, h.2.2.2.1, h.2.2.2.2.1, h.2.2.2.2.2.1, h.2.2.2.2.2.2.1, h.2.2.2.2.2.2.2.1, h.2.2.2.2.2.2.2.2.1, h.2.2.2.2.2.2.2.2.2.1, h.2.2.2.2.2.2.2.2.2.2.1, h.2.2.2.2.2.2.2.2.2.2.2.1, trivial⟩
theorem World.rg.Time {x : World} (h : World.rg x) : I64 x.Time := h.2.2.2.2.2.2.2.2.2.2.2.2.1
theorem World.rg.St {x : World} (h : World.rg x) : ((x.St).length ≤ 9223372036854775807 ∧ ∀ y ∈ x.St, Stripe.rg y) := h.2.2.2.2.2.2.2.2.2.2.2.2.2.2.1
theorem World.rg.RuleHeld {x : World} (h : World.rg x) : I64 x.RuleHeld := h.2.2.2.2.2.2.2.2.2.2.2.2.2.2.2.1
theorem World.rg.B {x : World} (h : World.rg x) : Bucket.rg x.B := ⟨h.2.2.2.2.2.2.2.2.2.2.2.2.2.2.2.2.1, h.2.2.2.2.2.2.2.2.2.2.2.2.2.2.2.2.2.1, h.2.2.2.2.2.2.2.2.2.2.2.2.2.2.2.2.2.2.1, h.2.2.2.2.2.2.2.2.2.2.2.2.2.2.2.2.2.2.2.1, trivial⟩
theorem World.rg.Cache {x : World} (h : World.rg x) : ((x.Cache).length ≤ 9223372036854775807 ∧ ∀ y ∈ x.Cache, Verdict.rg y) := h.2.2.2.2.2.2.2.2.2.2.2.2.2.2.2.2.2.2.2.2.1
theorem World.rg.Used {x : World} (h : World.rg x) : I64 x.Used := h.2.2.2.2.2.2.2.2.2.2.2.2.2.2.2.2.2.2.2.2.2.1
theorem World.rg.W {x : World} (h : World.rg x) : Wheel.rg x.W := ⟨h.2.2.2.2.2.2.2.2.2.2.2.2.2.2.2.2.2.2.2.2.2.2.1, h.2.2.2.2.2.2.2.2.2.2.2.2.2.2.2.2.2.2.2.2.2.2.2.1, h.2.2.2.2.2.2.2.2.2.2.2.2.2.2.2.2.2.2.2.2.2.2.2.2.1, h.2.2.2.2.2.2.2.2.2.2.2.2.2.2.2.2.2.2.2.2.2.2.2.2.2.1, trivial⟩
theorem World.rg.Due {x : World} (h : World.rg x) : ((x.Due).length ≤ 9223372036854775807 ∧ ∀ y ∈ x.Due, Timer.rg y) := h.2.2.2.2.2.2.2.2.2.2.2.2.2.2.2.2.2.2.2.2.2.2.2.2.2.2.1
theorem World.rg.Queue {x : World} (h : World.rg x) : ((x.Queue).length ≤ 9223372036854775807 ∧ ∀ y ∈ x.Queue, Item.rg y) := h.2.2.2.2.2.2.2.2.2.2.2.2.2.2.2.2.2.2.2.2.2.2.2.2.2.2.2.1
theorem World.rg.Out {x : World} (h : World.rg x) : ((x.Out).length ≤ 9223372036854775807 ∧ ∀ y ∈ x.Out, Item.rg y) := h.2.2.2.2.2.2.2.2.2.2.2.2.2.2.2.2.2.2.2.2.2.2.2.2.2.2.2.2.1
theorem World.rg.Tasks {x : World} (h : World.rg x) : ((x.Tasks).length ≤ 9223372036854775807 ∧ ∀ y ∈ x.Tasks, Task.rg y) := h.2.2.2.2.2.2.2.2.2.2.2.2.2.2.2.2.2.2.2.2.2.2.2.2.2.2.2.2.2.1
theorem World.rg.Deeds {x : World} (h : World.rg x) : ((x.Deeds).length ≤ 9223372036854775807 ∧ ∀ y ∈ x.Deeds, Deed.rg y) := h.2.2.2.2.2.2.2.2.2.2.2.2.2.2.2.2.2.2.2.2.2.2.2.2.2.2.2.2.2.2.1
theorem World.rg.Next {x : World} (h : World.rg x) : I64 x.Next := h.2.2.2.2.2.2.2.2.2.2.2.2.2.2.2.2.2.2.2.2.2.2.2.2.2.2.2.2.2.2.2.1
theorem wrapD (n : Int) : IntKind.i64.wrap n = if 9223372036854775808 ≤ n % 18446744073709551616 then n % 18446744073709551616 - 18446744073709551616 else n % 18446744073709551616 := by
  simp [IntKind.wrap, IntKind.bits, IntKind.signed]
theorem wrap_wrap_add (a b : Int) : IntKind.i64.wrap (IntKind.i64.wrap a + b) = IntKind.i64.wrap (a + b) := by
  rw [wrapD, wrapD, wrapD]
  split <;> split <;> split <;> omega
theorem wrap_add_wrap (a b : Int) : IntKind.i64.wrap (a + IntKind.i64.wrap b) = IntKind.i64.wrap (a + b) := by
  rw [Int.add_comm, wrap_wrap_add, Int.add_comm]
theorem wrap_idem (a : Int) : IntKind.i64.wrap (IntKind.i64.wrap a) = IntKind.i64.wrap a := by
  have := wrap_wrap_add a 0
  simpa using this
def isum {α : Type} (f : α → Int) : List α → Int
  | [] => 0
  | a :: l => f a + isum f l
theorem isum_append {α : Type} (f : α → Int) : ∀ (l m : List α), isum f (l ++ m) = isum f l + isum f m
  | [], m => by simp [isum]
  | a :: l, m => by simp only [List.cons_append, isum, isum_append f l m]; omega
theorem isum_flat {α β : Type} (f : β → Int) (g : α → List β) : ∀ l : List α, isum f (l.flatMap g) = isum (fun a => isum f (g a)) l
  | [] => rfl
  | a :: l => by rw [List.flatMap_cons, isum_append, isum, isum_flat f g l]
theorem sum_loop {α ρ : Type} {f : α → Int} {b : Nat → Int → α → Step Int ρ} : ∀ (l : List α) (i : Nat) (s : Int), IntKind.i64.wrap s = s → (∀ i s, ∀ a ∈ l, IntKind.i64.wrap s = s → b i s a = .next (IntKind.i64.wrap (s + f a))) → loopL b i s l = .fin (IntKind.i64.wrap (s + isum f l))
  | [], i, s, hs, hb => by simp [loopL, isum, hs]
  | a :: l, i, s, hs, hb => by
    unfold loopL
    rw [hb i s a (by simp) hs]
    simp only
    rw [sum_loop l (i + 1) _ (wrap_idem _) (fun i s x hx => hb i s x (by simp [hx])), wrap_wrap_add, isum, Int.add_assoc]
theorem app_loop {α β ρ : Type} {f : α → List β} {b : Nat → List β → α → Step (List β) ρ} (hb : ∀ i s a, b i s a = .next (s ++ f a)) : ∀ (l : List α) (i : Nat) (s : List β), loopL b i s l = .fin (s ++ l.flatMap f)
  | [], i, s => by simp [loopL]
  | a :: l, i, s => by
    unfold loopL
    rw [hb]
    simp only
    rw [app_loop hb l (i + 1), List.flatMap_cons, List.append_assoc]
theorem wrap_len {n : Nat} (h : n ≤ 9223372036854775807) : IntKind.i64.wrap ((n : Nat) : Int) = ((n : Nat) : Int) := Go.Ev.wrap_small (by omega) (by omega)
theorem nf {b : Bool} (h : (!b) = false) : b = true := by cases b; cases h; rfl
def laws_szPolS_b1 (r0 : (Pol → Int → Int)) (i1 : Nat) (s1 : Int) (a1 : Pol) : Step (Int) Int :=
  (bif (decide ((r0 a1 s1) < 0)) then (.done (-1)) else (.next (r0 a1 s1)))
def laws_szPolS (r0 : Pol → Int → Int) (p0 : (List Pol)) (p1 : Int) : Int :=
  (bif (decide ((IntKind.i64.wrap (p1 - (((p0).length : Nat) : Int))) < 0)) then (-1) else (Fin.get (fun s1 => s1) (loopL (laws_szPolS_b1 r0) 0 (IntKind.i64.wrap (p1 - (((p0).length : Nat) : Int))) p0)))
theorem c_laws_szPolS (r0 : Pol → Int → Int) (p0 : (List Pol)) (p1 : Int) (m0 : Nat) (hrec0 : ∀ (z0 : Pol) (z1 : Int), Pol.dep z0 < m0 → FnOk prog 44 [.agg (Pol.opn false z0), .one (.v (.int .i64 z1))] ⟨.one (.v (.int .i64 (r0 z0 z1))), [], [], false⟩) (hm0 : ∀ x ∈ p0, Pol.dep x < m0) : FnOk prog 82 [.one (.s false 5 (List.map (Pol.cells false) p0)), .one (.v (.int .i64 p1))] ⟨.one (.v (.int .i64 (laws_szPolS r0 p0 p1))), [], [], false⟩ := by
  refine FnOk.intro (E := env) envOk wide func82 rfl (by kernel_rfl) rfl rfl ?_
  have hg := laws_szPolS.eq_1 r0 p0 p1
  have hown : ∀ g : Int, AV.Own (AV.one (.v (.int .i64 g))) := fun g => .v _
  refine seqE ?_
  refine seqE ?_
  refine lenM fun hN1 => ?_
  refine seqE ?_
  refine seqE ?_
  refine brD hg (fun hg h2 => ?_) (fun hg h2 => ?_)
  · refine seqE ?_
    exact leafE hown hg
  · refine seqE ?_
    refine seqE ?_
    refine loopLE hg [0] (fun x1 => [(1, .one (.v (.int .i64 x1.s))), (5, .one (.v (.int .i64 ((x1.i : Nat) : Int))))]) (fun x1 => []) [] ?_ (fun x1 => ?_)
    · exact ⟨rfl, ⟨rfl, rfl, rfl, trivial⟩, trivial, trivial⟩
    refine seqE ?_
    refine seqE ?_
    refine lenM fun hN3 => ?_
    refine tstL (fun hi1 => ?_) (fun hi1 => ?_)
    · have hb1 := (x1.bdy hi1).trans (laws_szPolS_b1.eq_1 ..)
      have hw1 := wrap_succ hi1 (by first | assumption | omega)
      refine seqE ?_
      refine seqE ?_
      refine idxAtR (Pol.cells_eq false) hi1 ?_
      refine .inl (⟨_, _, hrec0 (p0[x1.i]'hi1) x1.s (by first | exact hm0 _ (List.getElem_mem _) | exact hm0 _ (List.mem_of_getElem? (by assumption)) | exact Nat.lt_of_lt_of_le (Pol.dep_lt (List.getElem_mem _)) (Nat.le_of_lt_succ hd0) | exact Nat.lt_of_lt_of_le (Pol.dep_lt (List.mem_of_getElem? (by assumption))) (Nat.le_of_lt_succ hd0)), (FzAs.same _), ?_⟩)
      refine litE (m := 1) rfl ?_
      refine seqE ?_
      refine brD hb1 (fun hb1 h4 => ?_) (fun hb1 h4 => x1.goE hi1 hb1 [] ⟨rfl, ⟨rfl, (eqInt hw1), rfl, trivial⟩, trivial, trivial⟩)
      refine seqE ?_
      have hg := donE hg (x1.outD hi1 hb1)
      exact leafE hown hg
    have hg := finE hg (x1.fin hi1)
    refine seqE ?_
    exact leafE hown hg
def laws_szPolR : Nat → Pol → Int → Int
  | 0, _, _ => default
  | n + 1, p0, p1 => (bif (decide ((IntKind.i64.wrap (p1 - (((p0.Key).size : Nat) : Int))) < 0)) then (-1) else (bif (decide ((IntKind.i64.wrap ((IntKind.i64.wrap (p1 - (((p0.Key).size : Nat) : Int))) - (((p0.Text).size : Nat) : Int))) < 0)) then (-1) else (bif (decide ((laws_szPolS (laws_szPolR n) p0.L (IntKind.i64.wrap ((IntKind.i64.wrap (p1 - (((p0.Key).size : Nat) : Int))) - (((p0.Text).size : Nat) : Int)))) < 0)) then (-1) else (laws_szPolS (laws_szPolR n) p0.L (IntKind.i64.wrap ((IntKind.i64.wrap (p1 - (((p0.Key).size : Nat) : Int))) - (((p0.Text).size : Nat) : Int)))))))
theorem cR_laws_szPol : ∀ (n : Nat) (p0 : Pol) (p1 : Int), Pol.dep p0 < n → FnOk prog 44 [.agg (Pol.opn false p0), .one (.v (.int .i64 p1))] ⟨.one (.v (.int .i64 (laws_szPolR n p0 p1))), [], [], false⟩ := by
  intro n
  induction n with
  | zero => intro p0 p1 hd0; omega
  | succ n ih =>
    intro p0 p1 hd0
    refine FnOk.intro (E := env) envOk wide func44 rfl (by kernel_rfl) rfl rfl ?_
    have hg : laws_szPolR (n + 1) p0 p1 = _ := laws_szPolR.eq_2 ..
    have hown : ∀ g : Int, AV.Own (AV.one (.v (.int .i64 g))) := fun g => .v _
    refine seqE ?_
    refine litE (m := 0) rfl ?_
    refine seqE ?_
    refine lenS fun hN1 => ?_
    refine seqE ?_
    refine seqE ?_
    refine brD hg (fun hg h2 => ?_) (fun hg h2 => ?_)
    · refine seqE ?_
      exact leafE hown hg
    · refine seqE ?_
      refine lenS fun hN3 => ?_
      refine seqE ?_
      refine seqE ?_
      refine brD hg (fun hg h4 => ?_) (fun hg h4 => ?_)
      · refine seqE ?_
        exact leafE hown hg
      · refine seqE ?_
        refine .inl (⟨_, _, c_laws_szPolS (laws_szPolR n) p0.L (IntKind.i64.wrap ((IntKind.i64.wrap (p1 - (((p0.Key).size : Nat) : Int))) - (((p0.Text).size : Nat) : Int))) n ih (by first | exact hm0 | exact fun x hx => Nat.lt_of_lt_of_le (Pol.dep_lt hx) (Nat.le_of_lt_succ hd0)), (FzAs.same _), ?_⟩)
        refine litE (m := 2) rfl ?_
        refine seqE ?_
        refine seqE ?_
        refine brD hg (fun hg h5 => ?_) (fun hg h5 => ?_)
        · refine seqE ?_
          exact leafE hown hg
        · refine seqE ?_
          exact leafE hown hg
def laws_szPol (p0 : Pol) (p1 : Int) : Int := laws_szPolR (Pol.dep p0 + 1) p0 p1
theorem c_laws_szPol (p0 : Pol) (p1 : Int) : FnOk prog 44 [.agg (Pol.opn false p0), .one (.v (.int .i64 p1))] ⟨.one (.v (.int .i64 (laws_szPol p0 p1))), [], [], false⟩ := cR_laws_szPol _ p0 p1 (Nat.lt_succ_self _)
theorem szdR_laws_szPol : ∀ (n : Nat) (x : Pol), Pol.dep x < n → SzdAt Pol.bd (laws_szPolR n) x := by
  intro n
  induction n with
  | zero => intro x h; omega
  | succ n ih =>
    intro x h left hb h0 h1 h2
    have hS := szS_okM (P := Pol.bd) (f := laws_szPolR n) (b := laws_szPolS_b1 (laws_szPolR n)) (g := laws_szPolS (laws_szPolR n)) (fun _ _ _ => rfl) (fun _ _ => rfl) x.L (fun a ha => ih a (Nat.lt_of_lt_of_le (Pol.dep_lt ha) (Nat.le_of_lt_succ h)))
    have eqn : laws_szPolR (n + 1) x left = _ := rfl
    simp only [laws_szPolR] at h2 ⊢
    clear eqn
    rw [Pol.bd_eq] at hb ⊢
    cases c0 : decide ((IntKind.i64.wrap (left - (((x.Key).size : Nat) : Int))) < 0) with
    | true => simp [c0] at h2
    | false =>
    have p0 : 0 ≤ (IntKind.i64.wrap (left - (((x.Key).size : Nat) : Int))) := by simpa using c0
    have w0 : (IntKind.i64.wrap (left - (((x.Key).size : Nat) : Int))) = left - (((x.Key).size : Nat) : Int) := by have := hb.1; rw [Go.Ev.wrap_small] <;> omega
    have b0 : (x.Key).size ≤ 1048576 := by omega
    have u0 : (IntKind.i64.wrap (left - (((x.Key).size : Nat) : Int))) ≤ left := by omega
    have v0 : (IntKind.i64.wrap (left - (((x.Key).size : Nat) : Int))) ≤ 1048576 := by omega
    cases c1 : decide ((IntKind.i64.wrap ((IntKind.i64.wrap (left - (((x.Key).size : Nat) : Int))) - (((x.Text).size : Nat) : Int))) < 0) with
    | true => simp [c0, c1] at h2
    | false =>
    have p1 : 0 ≤ (IntKind.i64.wrap ((IntKind.i64.wrap (left - (((x.Key).size : Nat) : Int))) - (((x.Text).size : Nat) : Int))) := by simpa using c1
    have w1 : (IntKind.i64.wrap ((IntKind.i64.wrap (left - (((x.Key).size : Nat) : Int))) - (((x.Text).size : Nat) : Int))) = (IntKind.i64.wrap (left - (((x.Key).size : Nat) : Int))) - (((x.Text).size : Nat) : Int) := by have := hb.2.1; rw [Go.Ev.wrap_small] <;> omega
    have b1 : (x.Text).size ≤ 1048576 := by omega
    have u1 : (IntKind.i64.wrap ((IntKind.i64.wrap (left - (((x.Key).size : Nat) : Int))) - (((x.Text).size : Nat) : Int))) ≤ (IntKind.i64.wrap (left - (((x.Key).size : Nat) : Int))) := by omega
    have v1 : (IntKind.i64.wrap ((IntKind.i64.wrap (left - (((x.Key).size : Nat) : Int))) - (((x.Text).size : Nat) : Int))) ≤ 1048576 := by omega
    cases c2 : decide ((laws_szPolS (laws_szPolR n) x.L (IntKind.i64.wrap ((IntKind.i64.wrap (left - (((x.Key).size : Nat) : Int))) - (((x.Text).size : Nat) : Int)))) < 0) with
    | true => simp [c0, c1, c2] at h2
    | false =>
    have p2 : 0 ≤ (laws_szPolS (laws_szPolR n) x.L (IntKind.i64.wrap ((IntKind.i64.wrap (left - (((x.Key).size : Nat) : Int))) - (((x.Text).size : Nat) : Int)))) := by simpa using c2
    have z2 := hS (IntKind.i64.wrap ((IntKind.i64.wrap (left - (((x.Key).size : Nat) : Int))) - (((x.Text).size : Nat) : Int))) hb.2.2 p1 v1 p2
    have b2 := z2.1
    have u2 := z2.2
    have v2 : (laws_szPolS (laws_szPolR n) x.L (IntKind.i64.wrap ((IntKind.i64.wrap (left - (((x.Key).size : Nat) : Int))) - (((x.Text).size : Nat) : Int)))) ≤ 1048576 := by omega
    simp only [c0, c1, c2, cond_false] at h2 ⊢
    exact ⟨⟨b0, b1, b2⟩, by omega⟩
theorem szd_laws_szPol : Szd Pol.bd laws_szPol := fun x left => szdR_laws_szPol _ x (Nat.lt_succ_self _) left
def laws_szConf (p0 : Conf) (p1 : Int) : Int :=
  (bif (decide ((laws_szPol p0.Rule p1) < 0)) then (-1) else (laws_szPol p0.Rule p1))
theorem c_laws_szConf (p0 : Conf) (p1 : Int) : FnOk prog 12 [.agg ((Conf.cells false) p0), .one (.v (.int .i64 p1))] ⟨.one (.v (.int .i64 (laws_szConf p0 p1))), [], [], false⟩ := by
  refine FnOk.intro (E := env) envOk wide func12 rfl (by kernel_rfl) rfl rfl ?_
  have hg := laws_szConf.eq_1 p0 p1
  have hown : ∀ g : Int, AV.Own (AV.one (.v (.int .i64 g))) := fun g => .v _
  refine seqE ?_
  refine litE (m := 0) rfl ?_
  refine seqE ?_
  refine .inl (⟨_, _, c_laws_szPol p0.Rule p1, (FzAs.same _), ?_⟩)
  refine litE (m := 2) rfl ?_
  refine seqE ?_
  refine seqE ?_
  refine brD hg (fun hg h1 => ?_) (fun hg h1 => ?_)
  · refine seqE ?_
    exact leafE hown hg
  · refine seqE ?_
    exact leafE hown hg
theorem szd_laws_szConf : Szd Conf.bd laws_szConf := by
  intro x left hb h0 h1 h2
  unfold laws_szConf at h2 ⊢
  unfold Conf.bd at hb ⊢
  cases c0 : decide ((laws_szPol x.Rule left) < 0) with
  | true => simp [c0] at h2
  | false =>
  have p0 : 0 ≤ (laws_szPol x.Rule left) := by simpa using c0
  have z0 := szd_laws_szPol x.Rule left hb h0 h1 p0
  have b0 := z0.1
  have u0 := z0.2
  have v0 : (laws_szPol x.Rule left) ≤ 1048576 := by omega
  simp only [c0, cond_false] at h2 ⊢
  exact ⟨b0, by omega⟩
def laws_szAttr (p0 : Attr) (p1 : Int) : Int :=
  (bif (decide ((IntKind.i64.wrap (p1 - (((p0.Key).size : Nat) : Int))) < 0)) then (-1) else (bif (decide ((IntKind.i64.wrap ((IntKind.i64.wrap (p1 - (((p0.Key).size : Nat) : Int))) - (((p0.Text).size : Nat) : Int))) < 0)) then (-1) else (IntKind.i64.wrap ((IntKind.i64.wrap (p1 - (((p0.Key).size : Nat) : Int))) - (((p0.Text).size : Nat) : Int)))))
theorem c_laws_szAttr (p0 : Attr) (p1 : Int) : FnOk prog 159 [.agg (Attr.cells p0), .one (.v (.int .i64 p1))] ⟨.one (.v (.int .i64 (laws_szAttr p0 p1))), [], [], false⟩ := by
  refine FnOk.intro (E := env) envOk wide func159 rfl (by kernel_rfl) rfl rfl ?_
  have hg := laws_szAttr.eq_1 p0 p1
  have hown : ∀ g : Int, AV.Own (AV.one (.v (.int .i64 g))) := fun g => .v _
  refine seqE ?_
  refine litE (m := 0) rfl ?_
  refine seqE ?_
  refine lenS fun hN1 => ?_
  refine seqE ?_
  refine seqE ?_
  refine brD hg (fun hg h2 => ?_) (fun hg h2 => ?_)
  · refine seqE ?_
    exact leafE hown hg
  · refine seqE ?_
    refine lenS fun hN3 => ?_
    refine seqE ?_
    refine seqE ?_
    refine brD hg (fun hg h4 => ?_) (fun hg h4 => ?_)
    · refine seqE ?_
      exact leafE hown hg
    · refine seqE ?_
      exact leafE hown hg
theorem szd_laws_szAttr : Szd Attr.bd laws_szAttr := by
  intro x left hb h0 h1 h2
  unfold laws_szAttr at h2 ⊢
  unfold Attr.bd at hb ⊢
  cases c0 : decide ((IntKind.i64.wrap (left - (((x.Key).size : Nat) : Int))) < 0) with
  | true => simp [c0] at h2
  | false =>
  have p0 : 0 ≤ (IntKind.i64.wrap (left - (((x.Key).size : Nat) : Int))) := by simpa using c0
  have w0 : (IntKind.i64.wrap (left - (((x.Key).size : Nat) : Int))) = left - (((x.Key).size : Nat) : Int) := by have := hb.1; rw [Go.Ev.wrap_small] <;> omega
  have b0 : (x.Key).size ≤ 1048576 := by omega
  have u0 : (IntKind.i64.wrap (left - (((x.Key).size : Nat) : Int))) ≤ left := by omega
  have v0 : (IntKind.i64.wrap (left - (((x.Key).size : Nat) : Int))) ≤ 1048576 := by omega
  cases c1 : decide ((IntKind.i64.wrap ((IntKind.i64.wrap (left - (((x.Key).size : Nat) : Int))) - (((x.Text).size : Nat) : Int))) < 0) with
  | true => simp [c0, c1] at h2
  | false =>
  have p1 : 0 ≤ (IntKind.i64.wrap ((IntKind.i64.wrap (left - (((x.Key).size : Nat) : Int))) - (((x.Text).size : Nat) : Int))) := by simpa using c1
  have w1 : (IntKind.i64.wrap ((IntKind.i64.wrap (left - (((x.Key).size : Nat) : Int))) - (((x.Text).size : Nat) : Int))) = (IntKind.i64.wrap (left - (((x.Key).size : Nat) : Int))) - (((x.Text).size : Nat) : Int) := by have := hb.2; rw [Go.Ev.wrap_small] <;> omega
  have b1 : (x.Text).size ≤ 1048576 := by omega
  have u1 : (IntKind.i64.wrap ((IntKind.i64.wrap (left - (((x.Key).size : Nat) : Int))) - (((x.Text).size : Nat) : Int))) ≤ (IntKind.i64.wrap (left - (((x.Key).size : Nat) : Int))) := by omega
  have v1 : (IntKind.i64.wrap ((IntKind.i64.wrap (left - (((x.Key).size : Nat) : Int))) - (((x.Text).size : Nat) : Int))) ≤ 1048576 := by omega
  simp only [c0, c1, cond_false] at h2 ⊢
  exact ⟨⟨b0, b1⟩, by omega⟩
def laws_szAttrS_b1 (i1 : Nat) (s1 : Int) (a1 : Attr) : Step (Int) Int :=
  (bif (decide ((laws_szAttr a1 s1) < 0)) then (.done (-1)) else (.next (laws_szAttr a1 s1)))
def laws_szAttrS (p0 : (List Attr)) (p1 : Int) : Int :=
  (bif (decide ((IntKind.i64.wrap (p1 - (((p0).length : Nat) : Int))) < 0)) then (-1) else (Fin.get (fun s1 => s1) (loopL laws_szAttrS_b1 0 (IntKind.i64.wrap (p1 - (((p0).length : Nat) : Int))) p0)))
theorem c_laws_szAttrS (p0 : (List Attr)) (p1 : Int) : FnOk prog 125 [.one (.s false 4 (List.map Attr.cells p0)), .one (.v (.int .i64 p1))] ⟨.one (.v (.int .i64 (laws_szAttrS p0 p1))), [], [], false⟩ := by
  refine FnOk.intro (E := env) envOk wide func125 rfl (by kernel_rfl) rfl rfl ?_
  have hg := laws_szAttrS.eq_1 p0 p1
  have hown : ∀ g : Int, AV.Own (AV.one (.v (.int .i64 g))) := fun g => .v _
  refine seqE ?_
  refine seqE ?_
  refine lenM fun hN1 => ?_
  refine seqE ?_
  refine seqE ?_
  refine brD hg (fun hg h2 => ?_) (fun hg h2 => ?_)
  · refine seqE ?_
    exact leafE hown hg
  · refine seqE ?_
    refine seqE ?_
    refine loopLE hg [0] (fun x1 => [(1, .one (.v (.int .i64 x1.s))), (5, .one (.v (.int .i64 ((x1.i : Nat) : Int))))]) (fun x1 => []) [] ?_ (fun x1 => ?_)
    · exact ⟨rfl, ⟨rfl, rfl, rfl, trivial⟩, trivial, trivial⟩
    refine seqE ?_
    refine seqE ?_
    refine lenM fun hN3 => ?_
    refine tstL (fun hi1 => ?_) (fun hi1 => ?_)
    · have hb1 := (x1.bdy hi1).trans (laws_szAttrS_b1.eq_1 ..)
      have hw1 := wrap_succ hi1 (by first | assumption | omega)
      refine seqE ?_
      refine seqE ?_
      refine idxAt hi1 ?_
      refine .inl (⟨_, _, c_laws_szAttr (p0[x1.i]'hi1) x1.s, (FzAs.same _), ?_⟩)
      refine litE (m := 1) rfl ?_
      refine seqE ?_
      refine brD hb1 (fun hb1 h4 => ?_) (fun hb1 h4 => x1.goE hi1 hb1 [] ⟨rfl, ⟨rfl, (eqInt hw1), rfl, trivial⟩, trivial, trivial⟩)
      refine seqE ?_
      have hg := donE hg (x1.outD hi1 hb1)
      exact leafE hown hg
    have hg := finE hg (x1.fin hi1)
    refine seqE ?_
    exact leafE hown hg
theorem szd_laws_szAttrS : Szd (bdS Attr.bd) laws_szAttrS := szS_ok (b := laws_szAttrS_b1) szd_laws_szAttr (fun _ _ _ => rfl) (fun _ _ => rfl)
def laws_szSpan (p0 : Span) (p1 : Int) : Int :=
  (bif (decide ((laws_szAttrS p0.Attrs p1) < 0)) then (-1) else (laws_szAttrS p0.Attrs p1))
theorem c_laws_szSpan (p0 : Span) (p1 : Int) : FnOk prog 84 [.agg ((Span.cells false) p0), .one (.v (.int .i64 p1))] ⟨.one (.v (.int .i64 (laws_szSpan p0 p1))), [], [], false⟩ := by
  refine FnOk.intro (E := env) envOk wide func84 rfl (by kernel_rfl) rfl rfl ?_
  have hg := laws_szSpan.eq_1 p0 p1
  have hown : ∀ g : Int, AV.Own (AV.one (.v (.int .i64 g))) := fun g => .v _
  refine seqE ?_
  refine litE (m := 0) rfl ?_
  refine seqE ?_
  refine .inl (⟨_, _, c_laws_szAttrS p0.Attrs p1, (FzAs.same _), ?_⟩)
  refine litE (m := 2) rfl ?_
  refine seqE ?_
  refine seqE ?_
  refine brD hg (fun hg h1 => ?_) (fun hg h1 => ?_)
  · refine seqE ?_
    exact leafE hown hg
  · refine seqE ?_
    exact leafE hown hg
theorem szd_laws_szSpan : Szd Span.bd laws_szSpan := by
  intro x left hb h0 h1 h2
  unfold laws_szSpan at h2 ⊢
  unfold Span.bd at hb ⊢
  cases c0 : decide ((laws_szAttrS x.Attrs left) < 0) with
  | true => simp [c0] at h2
  | false =>
  have p0 : 0 ≤ (laws_szAttrS x.Attrs left) := by simpa using c0
  have z0 := szd_laws_szAttrS x.Attrs left hb h0 h1 p0
  have b0 := z0.1
  have u0 := z0.2
  have v0 : (laws_szAttrS x.Attrs left) ≤ 1048576 := by omega
  simp only [c0, cond_false] at h2 ⊢
  exact ⟨b0, by omega⟩
def laws_szSpanS_b1 (i1 : Nat) (s1 : Int) (a1 : Span) : Step (Int) Int :=
  (bif (decide ((laws_szSpan a1 s1) < 0)) then (.done (-1)) else (.next (laws_szSpan a1 s1)))
def laws_szSpanS (p0 : (List Span)) (p1 : Int) : Int :=
  (bif (decide ((IntKind.i64.wrap (p1 - (((p0).length : Nat) : Int))) < 0)) then (-1) else (Fin.get (fun s1 => s1) (loopL laws_szSpanS_b1 0 (IntKind.i64.wrap (p1 - (((p0).length : Nat) : Int))) p0)))
theorem c_laws_szSpanS (p0 : (List Span)) (p1 : Int) : FnOk prog 158 [.one (.s false 6 (List.map (Span.cells false) p0)), .one (.v (.int .i64 p1))] ⟨.one (.v (.int .i64 (laws_szSpanS p0 p1))), [], [], false⟩ := by
  refine FnOk.intro (E := env) envOk wide func158 rfl (by kernel_rfl) rfl rfl ?_
  have hg := laws_szSpanS.eq_1 p0 p1
  have hown : ∀ g : Int, AV.Own (AV.one (.v (.int .i64 g))) := fun g => .v _
  refine seqE ?_
  refine seqE ?_
  refine lenM fun hN1 => ?_
  refine seqE ?_
  refine seqE ?_
  refine brD hg (fun hg h2 => ?_) (fun hg h2 => ?_)
  · refine seqE ?_
    exact leafE hown hg
  · refine seqE ?_
    refine seqE ?_
    refine loopLE hg [0] (fun x1 => [(1, .one (.v (.int .i64 x1.s))), (5, .one (.v (.int .i64 ((x1.i : Nat) : Int))))]) (fun x1 => []) [] ?_ (fun x1 => ?_)
    · exact ⟨rfl, ⟨rfl, rfl, rfl, trivial⟩, trivial, trivial⟩
    refine seqE ?_
    refine seqE ?_
    refine lenM fun hN3 => ?_
    refine tstL (fun hi1 => ?_) (fun hi1 => ?_)
    · have hb1 := (x1.bdy hi1).trans (laws_szSpanS_b1.eq_1 ..)
      have hw1 := wrap_succ hi1 (by first | assumption | omega)
      refine seqE ?_
      refine seqE ?_
      refine idxAt hi1 ?_
      refine .inl (⟨_, _, c_laws_szSpan (p0[x1.i]'hi1) x1.s, (FzAs.same _), ?_⟩)
      refine litE (m := 1) rfl ?_
      refine seqE ?_
      refine brD hb1 (fun hb1 h4 => ?_) (fun hb1 h4 => x1.goE hi1 hb1 [] ⟨rfl, ⟨rfl, (eqInt hw1), rfl, trivial⟩, trivial, trivial⟩)
      refine seqE ?_
      have hg := donE hg (x1.outD hi1 hb1)
      exact leafE hown hg
    have hg := finE hg (x1.fin hi1)
    refine seqE ?_
    exact leafE hown hg
theorem szd_laws_szSpanS : Szd (bdS Span.bd) laws_szSpanS := szS_ok (b := laws_szSpanS_b1) szd_laws_szSpan (fun _ _ _ => rfl) (fun _ _ => rfl)
def laws_szTrail (p0 : Trail) (p1 : Int) : Int :=
  (bif (decide ((laws_szSpanS p0.Spans p1) < 0)) then (-1) else (laws_szSpanS p0.Spans p1))
theorem c_laws_szTrail (p0 : Trail) (p1 : Int) : FnOk prog 124 [.agg ((Trail.cells false) p0), .one (.v (.int .i64 p1))] ⟨.one (.v (.int .i64 (laws_szTrail p0 p1))), [], [], false⟩ := by
  refine FnOk.intro (E := env) envOk wide func124 rfl (by kernel_rfl) rfl rfl ?_
  have hg := laws_szTrail.eq_1 p0 p1
  have hown : ∀ g : Int, AV.Own (AV.one (.v (.int .i64 g))) := fun g => .v _
  refine seqE ?_
  refine litE (m := 0) rfl ?_
  refine seqE ?_
  refine .inl (⟨_, _, c_laws_szSpanS p0.Spans p1, (FzAs.same _), ?_⟩)
  refine litE (m := 2) rfl ?_
  refine seqE ?_
  refine seqE ?_
  refine brD hg (fun hg h1 => ?_) (fun hg h1 => ?_)
  · refine seqE ?_
    exact leafE hown hg
  · refine seqE ?_
    exact leafE hown hg
theorem szd_laws_szTrail : Szd Trail.bd laws_szTrail := by
  intro x left hb h0 h1 h2
  unfold laws_szTrail at h2 ⊢
  unfold Trail.bd at hb ⊢
  cases c0 : decide ((laws_szSpanS x.Spans left) < 0) with
  | true => simp [c0] at h2
  | false =>
  have p0 : 0 ≤ (laws_szSpanS x.Spans left) := by simpa using c0
  have z0 := szd_laws_szSpanS x.Spans left hb h0 h1 p0
  have b0 := z0.1
  have u0 := z0.2
  have v0 : (laws_szSpanS x.Spans left) ≤ 1048576 := by omega
  simp only [c0, cond_false] at h2 ⊢
  exact ⟨b0, by omega⟩
def laws_szTrailS_b1 (i1 : Nat) (s1 : Int) (a1 : Trail) : Step (Int) Int :=
  (bif (decide ((laws_szTrail a1 s1) < 0)) then (.done (-1)) else (.next (laws_szTrail a1 s1)))
def laws_szTrailS (p0 : (List Trail)) (p1 : Int) : Int :=
  (bif (decide ((IntKind.i64.wrap (p1 - (((p0).length : Nat) : Int))) < 0)) then (-1) else (Fin.get (fun s1 => s1) (loopL laws_szTrailS_b1 0 (IntKind.i64.wrap (p1 - (((p0).length : Nat) : Int))) p0)))
theorem c_laws_szTrailS (p0 : (List Trail)) (p1 : Int) : FnOk prog 83 [.one (.s false 4 (List.map (Trail.cells false) p0)), .one (.v (.int .i64 p1))] ⟨.one (.v (.int .i64 (laws_szTrailS p0 p1))), [], [], false⟩ := by
  refine FnOk.intro (E := env) envOk wide func83 rfl (by kernel_rfl) rfl rfl ?_
  have hg := laws_szTrailS.eq_1 p0 p1
  have hown : ∀ g : Int, AV.Own (AV.one (.v (.int .i64 g))) := fun g => .v _
  refine seqE ?_
  refine seqE ?_
  refine lenM fun hN1 => ?_
  refine seqE ?_
  refine seqE ?_
  refine brD hg (fun hg h2 => ?_) (fun hg h2 => ?_)
  · refine seqE ?_
    exact leafE hown hg
  · refine seqE ?_
    refine seqE ?_
    refine loopLE hg [0] (fun x1 => [(1, .one (.v (.int .i64 x1.s))), (5, .one (.v (.int .i64 ((x1.i : Nat) : Int))))]) (fun x1 => []) [] ?_ (fun x1 => ?_)
    · exact ⟨rfl, ⟨rfl, rfl, rfl, trivial⟩, trivial, trivial⟩
    refine seqE ?_
    refine seqE ?_
    refine lenM fun hN3 => ?_
    refine tstL (fun hi1 => ?_) (fun hi1 => ?_)
    · have hb1 := (x1.bdy hi1).trans (laws_szTrailS_b1.eq_1 ..)
      have hw1 := wrap_succ hi1 (by first | assumption | omega)
      refine seqE ?_
      refine seqE ?_
      refine idxAt hi1 ?_
      refine .inl (⟨_, _, c_laws_szTrail (p0[x1.i]'hi1) x1.s, (FzAs.same _), ?_⟩)
      refine litE (m := 1) rfl ?_
      refine seqE ?_
      refine brD hb1 (fun hb1 h4 => ?_) (fun hb1 h4 => x1.goE hi1 hb1 [] ⟨rfl, ⟨rfl, (eqInt hw1), rfl, trivial⟩, trivial, trivial⟩)
      refine seqE ?_
      have hg := donE hg (x1.outD hi1 hb1)
      exact leafE hown hg
    have hg := finE hg (x1.fin hi1)
    refine seqE ?_
    exact leafE hown hg
theorem szd_laws_szTrailS : Szd (bdS Trail.bd) laws_szTrailS := szS_ok (b := laws_szTrailS_b1) szd_laws_szTrail (fun _ _ _ => rfl) (fun _ _ => rfl)
def laws_szStripe (p0 : Stripe) (p1 : Int) : Int :=
  (bif (decide ((laws_szTrailS p0.L p1) < 0)) then (-1) else (laws_szTrailS p0.L p1))
theorem c_laws_szStripe (p0 : Stripe) (p1 : Int) : FnOk prog 45 [.agg ((Stripe.cells false) p0), .one (.v (.int .i64 p1))] ⟨.one (.v (.int .i64 (laws_szStripe p0 p1))), [], [], false⟩ := by
  refine FnOk.intro (E := env) envOk wide func45 rfl (by kernel_rfl) rfl rfl ?_
  have hg := laws_szStripe.eq_1 p0 p1
  have hown : ∀ g : Int, AV.Own (AV.one (.v (.int .i64 g))) := fun g => .v _
  refine seqE ?_
  refine litE (m := 0) rfl ?_
  refine seqE ?_
  refine .inl (⟨_, _, c_laws_szTrailS p0.L p1, (FzAs.same _), ?_⟩)
  refine litE (m := 2) rfl ?_
  refine seqE ?_
  refine seqE ?_
  refine brD hg (fun hg h1 => ?_) (fun hg h1 => ?_)
  · refine seqE ?_
    exact leafE hown hg
  · refine seqE ?_
    exact leafE hown hg
theorem szd_laws_szStripe : Szd Stripe.bd laws_szStripe := by
  intro x left hb h0 h1 h2
  unfold laws_szStripe at h2 ⊢
  unfold Stripe.bd at hb ⊢
  cases c0 : decide ((laws_szTrailS x.L left) < 0) with
  | true => simp [c0] at h2
  | false =>
  have p0 : 0 ≤ (laws_szTrailS x.L left) := by simpa using c0
  have z0 := szd_laws_szTrailS x.L left hb h0 h1 p0
  have b0 := z0.1
  have u0 := z0.2
  have v0 : (laws_szTrailS x.L left) ≤ 1048576 := by omega
  simp only [c0, cond_false] at h2 ⊢
  exact ⟨b0, by omega⟩
def laws_szStripeS_b1 (i1 : Nat) (s1 : Int) (a1 : Stripe) : Step (Int) Int :=
  (bif (decide ((laws_szStripe a1 s1) < 0)) then (.done (-1)) else (.next (laws_szStripe a1 s1)))
def laws_szStripeS (p0 : (List Stripe)) (p1 : Int) : Int :=
  (bif (decide ((IntKind.i64.wrap (p1 - (((p0).length : Nat) : Int))) < 0)) then (-1) else (Fin.get (fun s1 => s1) (loopL laws_szStripeS_b1 0 (IntKind.i64.wrap (p1 - (((p0).length : Nat) : Int))) p0)))
theorem c_laws_szStripeS (p0 : (List Stripe)) (p1 : Int) : FnOk prog 13 [.one (.s false 2 (List.map (Stripe.cells false) p0)), .one (.v (.int .i64 p1))] ⟨.one (.v (.int .i64 (laws_szStripeS p0 p1))), [], [], false⟩ := by
  refine FnOk.intro (E := env) envOk wide func13 rfl (by kernel_rfl) rfl rfl ?_
  have hg := laws_szStripeS.eq_1 p0 p1
  have hown : ∀ g : Int, AV.Own (AV.one (.v (.int .i64 g))) := fun g => .v _
  refine seqE ?_
  refine seqE ?_
  refine lenM fun hN1 => ?_
  refine seqE ?_
  refine seqE ?_
  refine brD hg (fun hg h2 => ?_) (fun hg h2 => ?_)
  · refine seqE ?_
    exact leafE hown hg
  · refine seqE ?_
    refine seqE ?_
    refine loopLE hg [0] (fun x1 => [(1, .one (.v (.int .i64 x1.s))), (5, .one (.v (.int .i64 ((x1.i : Nat) : Int))))]) (fun x1 => []) [] ?_ (fun x1 => ?_)
    · exact ⟨rfl, ⟨rfl, rfl, rfl, trivial⟩, trivial, trivial⟩
    refine seqE ?_
    refine seqE ?_
    refine lenM fun hN3 => ?_
    refine tstL (fun hi1 => ?_) (fun hi1 => ?_)
    · have hb1 := (x1.bdy hi1).trans (laws_szStripeS_b1.eq_1 ..)
      have hw1 := wrap_succ hi1 (by first | assumption | omega)
      refine seqE ?_
      refine seqE ?_
      refine idxAt hi1 ?_
      refine .inl (⟨_, _, c_laws_szStripe (p0[x1.i]'hi1) x1.s, (FzAs.same _), ?_⟩)
      refine litE (m := 1) rfl ?_
      refine seqE ?_
      refine brD hb1 (fun hb1 h4 => ?_) (fun hb1 h4 => x1.goE hi1 hb1 [] ⟨rfl, ⟨rfl, (eqInt hw1), rfl, trivial⟩, trivial, trivial⟩)
      refine seqE ?_
      have hg := donE hg (x1.outD hi1 hb1)
      exact leafE hown hg
    have hg := finE hg (x1.fin hi1)
    refine seqE ?_
    exact leafE hown hg
theorem szd_laws_szStripeS : Szd (bdS Stripe.bd) laws_szStripeS := szS_ok (b := laws_szStripeS_b1) szd_laws_szStripe (fun _ _ _ => rfl) (fun _ _ => rfl)
def laws_szVerdictS (p0 : (List Verdict)) (p1 : Int) : Int :=
  (bif (decide ((IntKind.i64.wrap (p1 - (((p0).length : Nat) : Int))) < 0)) then (-1) else (IntKind.i64.wrap (p1 - (((p0).length : Nat) : Int))))
theorem c_laws_szVerdictS (p0 : (List Verdict)) (p1 : Int) : FnOk prog 14 [.one (.s false 3 (List.map Verdict.cells p0)), .one (.v (.int .i64 p1))] ⟨.one (.v (.int .i64 (laws_szVerdictS p0 p1))), [], [], false⟩ := by
  refine FnOk.intro (E := env) envOk wide func14 rfl (by kernel_rfl) rfl rfl ?_
  have hg := laws_szVerdictS.eq_1 p0 p1
  have hown : ∀ g : Int, AV.Own (AV.one (.v (.int .i64 g))) := fun g => .v _
  refine seqE ?_
  refine seqE ?_
  refine lenM fun hN1 => ?_
  refine seqE ?_
  refine seqE ?_
  refine brD hg (fun hg h2 => ?_) (fun hg h2 => ?_)
  · refine seqE ?_
    exact leafE hown hg
  · refine seqE ?_
    exact leafE hown hg
theorem szd_laws_szVerdictS : Szd (bdS Verdict.bd) laws_szVerdictS := by
  intro l left hb h0 h1 h2
  unfold laws_szVerdictS at h2 ⊢
  have hl := hb.1
  have hw : IntKind.i64.wrap (left - ((l.length : Nat) : Int)) = left - ((l.length : Nat) : Int) := by rw [Go.Ev.wrap_small] <;> omega
  rw [hw] at h2 ⊢
  cases c : decide (left - ((l.length : Nat) : Int) < 0) with
  | true => rw [c] at h2; simp at h2
  | false =>
    rw [c] at h2
    simp only [cond_false] at h2 ⊢
    have : 0 ≤ left - ((l.length : Nat) : Int) := by simpa using c
    exact ⟨⟨by omega, fun _ _ => trivial⟩, by omega⟩
def laws_szTimerS (p0 : (List Timer)) (p1 : Int) : Int :=
  (bif (decide ((IntKind.i64.wrap (p1 - (((p0).length : Nat) : Int))) < 0)) then (-1) else (IntKind.i64.wrap (p1 - (((p0).length : Nat) : Int))))
theorem c_laws_szTimerS (p0 : (List Timer)) (p1 : Int) : FnOk prog 16 [.one (.s false 3 (List.map Timer.cells p0)), .one (.v (.int .i64 p1))] ⟨.one (.v (.int .i64 (laws_szTimerS p0 p1))), [], [], false⟩ := by
  refine FnOk.intro (E := env) envOk wide func16 rfl (by kernel_rfl) rfl rfl ?_
  have hg := laws_szTimerS.eq_1 p0 p1
  have hown : ∀ g : Int, AV.Own (AV.one (.v (.int .i64 g))) := fun g => .v _
  refine seqE ?_
  refine seqE ?_
  refine lenM fun hN1 => ?_
  refine seqE ?_
  refine seqE ?_
  refine brD hg (fun hg h2 => ?_) (fun hg h2 => ?_)
  · refine seqE ?_
    exact leafE hown hg
  · refine seqE ?_
    exact leafE hown hg
theorem szd_laws_szTimerS : Szd (bdS Timer.bd) laws_szTimerS := by
  intro l left hb h0 h1 h2
  unfold laws_szTimerS at h2 ⊢
  have hl := hb.1
  have hw : IntKind.i64.wrap (left - ((l.length : Nat) : Int)) = left - ((l.length : Nat) : Int) := by rw [Go.Ev.wrap_small] <;> omega
  rw [hw] at h2 ⊢
  cases c : decide (left - ((l.length : Nat) : Int) < 0) with
  | true => rw [c] at h2; simp at h2
  | false =>
    rw [c] at h2
    simp only [cond_false] at h2 ⊢
    have : 0 ≤ left - ((l.length : Nat) : Int) := by simpa using c
    exact ⟨⟨by omega, fun _ _ => trivial⟩, by omega⟩
def laws_szTimerSS_b1 (i1 : Nat) (s1 : Int) (a1 : (List Timer)) : Step (Int) Int :=
  (bif (decide ((laws_szTimerS a1 s1) < 0)) then (.done (-1)) else (.next (laws_szTimerS a1 s1)))
def laws_szTimerSS (p0 : (List (List Timer))) (p1 : Int) : Int :=
  (bif (decide ((IntKind.i64.wrap (p1 - (((p0).length : Nat) : Int))) < 0)) then (-1) else (Fin.get (fun s1 => s1) (loopL laws_szTimerSS_b1 0 (IntKind.i64.wrap (p1 - (((p0).length : Nat) : Int))) p0)))
theorem c_laws_szTimerSS (p0 : (List (List Timer))) (p1 : Int) : FnOk prog 46 [.one (.s false 1 (List.map (cSl false 3 Timer.cells) p0)), .one (.v (.int .i64 p1))] ⟨.one (.v (.int .i64 (laws_szTimerSS p0 p1))), [], [], false⟩ := by
  refine FnOk.intro (E := env) envOk wide func46 rfl (by kernel_rfl) rfl rfl ?_
  have hg := laws_szTimerSS.eq_1 p0 p1
  have hown : ∀ g : Int, AV.Own (AV.one (.v (.int .i64 g))) := fun g => .v _
  refine seqE ?_
  refine seqE ?_
  refine lenM fun hN1 => ?_
  refine seqE ?_
  refine seqE ?_
  refine brD hg (fun hg h2 => ?_) (fun hg h2 => ?_)
  · refine seqE ?_
    exact leafE hown hg
  · refine seqE ?_
    refine seqE ?_
    refine loopLE hg [0] (fun x1 => [(1, .one (.v (.int .i64 x1.s))), (5, .one (.v (.int .i64 ((x1.i : Nat) : Int))))]) (fun x1 => []) [] ?_ (fun x1 => ?_)
    · exact ⟨rfl, ⟨rfl, rfl, rfl, trivial⟩, trivial, trivial⟩
    refine seqE ?_
    refine seqE ?_
    refine lenM fun hN3 => ?_
    refine tstL (fun hi1 => ?_) (fun hi1 => ?_)
    · have hb1 := (x1.bdy hi1).trans (laws_szTimerSS_b1.eq_1 ..)
      have hw1 := wrap_succ hi1 (by first | assumption | omega)
      refine seqE ?_
      refine seqE ?_
      refine idxAt hi1 ?_
      refine .inl (⟨_, _, c_laws_szTimerS (p0[x1.i]'hi1) x1.s, (FzAs.same _), ?_⟩)
      refine litE (m := 1) rfl ?_
      refine seqE ?_
      refine brD hb1 (fun hb1 h4 => ?_) (fun hb1 h4 => x1.goE hi1 hb1 [] ⟨rfl, ⟨rfl, (eqInt hw1), rfl, trivial⟩, trivial, trivial⟩)
      refine seqE ?_
      have hg := donE hg (x1.outD hi1 hb1)
      exact leafE hown hg
    have hg := finE hg (x1.fin hi1)
    refine seqE ?_
    exact leafE hown hg
theorem szd_laws_szTimerSS : Szd (bdS (bdS Timer.bd)) laws_szTimerSS := szS_ok (b := laws_szTimerSS_b1) szd_laws_szTimerS (fun _ _ _ => rfl) (fun _ _ => rfl)
def laws_szWheel (p0 : Wheel) (p1 : Int) : Int :=
  (bif (decide ((laws_szTimerSS p0.Near p1) < 0)) then (-1) else (bif (decide ((laws_szTimerSS p0.Far (laws_szTimerSS p0.Near p1)) < 0)) then (-1) else (bif (decide ((laws_szTimerS p0.Rest (laws_szTimerSS p0.Far (laws_szTimerSS p0.Near p1))) < 0)) then (-1) else (laws_szTimerS p0.Rest (laws_szTimerSS p0.Far (laws_szTimerSS p0.Near p1))))))
theorem c_laws_szWheel (p0 : Wheel) (p1 : Int) : FnOk prog 15 [.agg ((Wheel.cells false) p0), .one (.v (.int .i64 p1))] ⟨.one (.v (.int .i64 (laws_szWheel p0 p1))), [], [], false⟩ := by
  refine FnOk.intro (E := env) envOk wide func15 rfl (by kernel_rfl) rfl rfl ?_
  have hg := laws_szWheel.eq_1 p0 p1
  have hown : ∀ g : Int, AV.Own (AV.one (.v (.int .i64 g))) := fun g => .v _
  refine seqE ?_
  refine litE (m := 0) rfl ?_
  refine seqE ?_
  refine .inl (⟨_, _, c_laws_szTimerSS p0.Near p1, (FzAs.same _), ?_⟩)
  refine litE (m := 2) rfl ?_
  refine seqE ?_
  refine seqE ?_
  refine brD hg (fun hg h1 => ?_) (fun hg h1 => ?_)
  · refine seqE ?_
    exact leafE hown hg
  · refine seqE ?_
    refine .inl (⟨_, _, c_laws_szTimerSS p0.Far (laws_szTimerSS p0.Near p1), (FzAs.same _), ?_⟩)
    refine litE (m := 3) rfl ?_
    refine seqE ?_
    refine seqE ?_
    refine brD hg (fun hg h2 => ?_) (fun hg h2 => ?_)
    · refine seqE ?_
      exact leafE hown hg
    · refine seqE ?_
      refine .inl (⟨_, _, c_laws_szTimerS p0.Rest (laws_szTimerSS p0.Far (laws_szTimerSS p0.Near p1)), (FzAs.same _), ?_⟩)
      refine litE (m := 4) rfl ?_
      refine seqE ?_
      refine seqE ?_
      refine brD hg (fun hg h3 => ?_) (fun hg h3 => ?_)
      · refine seqE ?_
        exact leafE hown hg
      · refine seqE ?_
        exact leafE hown hg
theorem szd_laws_szWheel : Szd Wheel.bd laws_szWheel := by
  intro x left hb h0 h1 h2
  unfold laws_szWheel at h2 ⊢
  unfold Wheel.bd at hb ⊢
  cases c0 : decide ((laws_szTimerSS x.Near left) < 0) with
  | true => simp [c0] at h2
  | false =>
  have p0 : 0 ≤ (laws_szTimerSS x.Near left) := by simpa using c0
  have z0 := szd_laws_szTimerSS x.Near left hb.1 h0 h1 p0
  have b0 := z0.1
  have u0 := z0.2
  have v0 : (laws_szTimerSS x.Near left) ≤ 1048576 := by omega
  cases c1 : decide ((laws_szTimerSS x.Far (laws_szTimerSS x.Near left)) < 0) with
  | true => simp [c0, c1] at h2
  | false =>
  have p1 : 0 ≤ (laws_szTimerSS x.Far (laws_szTimerSS x.Near left)) := by simpa using c1
  have z1 := szd_laws_szTimerSS x.Far (laws_szTimerSS x.Near left) hb.2.1 p0 v0 p1
  have b1 := z1.1
  have u1 := z1.2
  have v1 : (laws_szTimerSS x.Far (laws_szTimerSS x.Near left)) ≤ 1048576 := by omega
  cases c2 : decide ((laws_szTimerS x.Rest (laws_szTimerSS x.Far (laws_szTimerSS x.Near left))) < 0) with
  | true => simp [c0, c1, c2] at h2
  | false =>
  have p2 : 0 ≤ (laws_szTimerS x.Rest (laws_szTimerSS x.Far (laws_szTimerSS x.Near left))) := by simpa using c2
  have z2 := szd_laws_szTimerS x.Rest (laws_szTimerSS x.Far (laws_szTimerSS x.Near left)) hb.2.2 p1 v1 p2
  have b2 := z2.1
  have u2 := z2.2
  have v2 : (laws_szTimerS x.Rest (laws_szTimerSS x.Far (laws_szTimerSS x.Near left))) ≤ 1048576 := by omega
  simp only [c0, c1, c2, cond_false] at h2 ⊢
  exact ⟨⟨b0, b1, b2⟩, by omega⟩
def laws_szItem (p0 : Item) (p1 : Int) : Int :=
  (bif (decide ((laws_szSpan p0.S p1) < 0)) then (-1) else (laws_szSpan p0.S p1))
theorem c_laws_szItem (p0 : Item) (p1 : Int) : FnOk prog 47 [.agg ((Item.cells false) p0), .one (.v (.int .i64 p1))] ⟨.one (.v (.int .i64 (laws_szItem p0 p1))), [], [], false⟩ := by
  refine FnOk.intro (E := env) envOk wide func47 rfl (by kernel_rfl) rfl rfl ?_
  have hg := laws_szItem.eq_1 p0 p1
  have hown : ∀ g : Int, AV.Own (AV.one (.v (.int .i64 g))) := fun g => .v _
  refine seqE ?_
  refine litE (m := 0) rfl ?_
  refine seqE ?_
  refine .inl (⟨_, _, c_laws_szSpan p0.S p1, (FzAs.same _), ?_⟩)
  refine litE (m := 2) rfl ?_
  refine seqE ?_
  refine seqE ?_
  refine brD hg (fun hg h1 => ?_) (fun hg h1 => ?_)
  · refine seqE ?_
    exact leafE hown hg
  · refine seqE ?_
    exact leafE hown hg
theorem szd_laws_szItem : Szd Item.bd laws_szItem := by
  intro x left hb h0 h1 h2
  unfold laws_szItem at h2 ⊢
  unfold Item.bd at hb ⊢
  cases c0 : decide ((laws_szSpan x.S left) < 0) with
  | true => simp [c0] at h2
  | false =>
  have p0 : 0 ≤ (laws_szSpan x.S left) := by simpa using c0
  have z0 := szd_laws_szSpan x.S left hb h0 h1 p0
  have b0 := z0.1
  have u0 := z0.2
  have v0 : (laws_szSpan x.S left) ≤ 1048576 := by omega
  simp only [c0, cond_false] at h2 ⊢
  exact ⟨b0, by omega⟩
def laws_szItemS_b1 (i1 : Nat) (s1 : Int) (a1 : Item) : Step (Int) Int :=
  (bif (decide ((laws_szItem a1 s1) < 0)) then (.done (-1)) else (.next (laws_szItem a1 s1)))
def laws_szItemS (p0 : (List Item)) (p1 : Int) : Int :=
  (bif (decide ((IntKind.i64.wrap (p1 - (((p0).length : Nat) : Int))) < 0)) then (-1) else (Fin.get (fun s1 => s1) (loopL laws_szItemS_b1 0 (IntKind.i64.wrap (p1 - (((p0).length : Nat) : Int))) p0)))
theorem c_laws_szItemS (p0 : (List Item)) (p1 : Int) : FnOk prog 17 [.one (.s false 7 (List.map (Item.cells false) p0)), .one (.v (.int .i64 p1))] ⟨.one (.v (.int .i64 (laws_szItemS p0 p1))), [], [], false⟩ := by
  refine FnOk.intro (E := env) envOk wide func17 rfl (by kernel_rfl) rfl rfl ?_
  have hg := laws_szItemS.eq_1 p0 p1
  have hown : ∀ g : Int, AV.Own (AV.one (.v (.int .i64 g))) := fun g => .v _
  refine seqE ?_
  refine seqE ?_
  refine lenM fun hN1 => ?_
  refine seqE ?_
  refine seqE ?_
  refine brD hg (fun hg h2 => ?_) (fun hg h2 => ?_)
  · refine seqE ?_
    exact leafE hown hg
  · refine seqE ?_
    refine seqE ?_
    refine loopLE hg [0] (fun x1 => [(1, .one (.v (.int .i64 x1.s))), (5, .one (.v (.int .i64 ((x1.i : Nat) : Int))))]) (fun x1 => []) [] ?_ (fun x1 => ?_)
    · exact ⟨rfl, ⟨rfl, rfl, rfl, trivial⟩, trivial, trivial⟩
    refine seqE ?_
    refine seqE ?_
    refine lenM fun hN3 => ?_
    refine tstL (fun hi1 => ?_) (fun hi1 => ?_)
    · have hb1 := (x1.bdy hi1).trans (laws_szItemS_b1.eq_1 ..)
      have hw1 := wrap_succ hi1 (by first | assumption | omega)
      refine seqE ?_
      refine seqE ?_
      refine idxAt hi1 ?_
      refine .inl (⟨_, _, c_laws_szItem (p0[x1.i]'hi1) x1.s, (FzAs.same _), ?_⟩)
      refine litE (m := 1) rfl ?_
      refine seqE ?_
      refine brD hb1 (fun hb1 h4 => ?_) (fun hb1 h4 => x1.goE hi1 hb1 [] ⟨rfl, ⟨rfl, (eqInt hw1), rfl, trivial⟩, trivial, trivial⟩)
      refine seqE ?_
      have hg := donE hg (x1.outD hi1 hb1)
      exact leafE hown hg
    have hg := finE hg (x1.fin hi1)
    refine seqE ?_
    exact leafE hown hg
theorem szd_laws_szItemS : Szd (bdS Item.bd) laws_szItemS := szS_ok (b := laws_szItemS_b1) szd_laws_szItem (fun _ _ _ => rfl) (fun _ _ => rfl)
def laws_szTask (p0 : Task) (p1 : Int) : Int :=
  (bif (decide ((laws_szSpan p0.S p1) < 0)) then (-1) else (bif (decide ((laws_szItemS p0.Hand (laws_szSpan p0.S p1)) < 0)) then (-1) else (laws_szItemS p0.Hand (laws_szSpan p0.S p1))))
theorem c_laws_szTask (p0 : Task) (p1 : Int) : FnOk prog 48 [.agg ((Task.cells false) p0), .one (.v (.int .i64 p1))] ⟨.one (.v (.int .i64 (laws_szTask p0 p1))), [], [], false⟩ := by
  refine FnOk.intro (E := env) envOk wide func48 rfl (by kernel_rfl) rfl rfl ?_
  have hg := laws_szTask.eq_1 p0 p1
  have hown : ∀ g : Int, AV.Own (AV.one (.v (.int .i64 g))) := fun g => .v _
  refine seqE ?_
  refine litE (m := 0) rfl ?_
  refine seqE ?_
  refine .inl (⟨_, _, c_laws_szSpan p0.S p1, (FzAs.same _), ?_⟩)
  refine litE (m := 2) rfl ?_
  refine seqE ?_
  refine seqE ?_
  refine brD hg (fun hg h1 => ?_) (fun hg h1 => ?_)
  · refine seqE ?_
    exact leafE hown hg
  · refine seqE ?_
    refine .inl (⟨_, _, c_laws_szItemS p0.Hand (laws_szSpan p0.S p1), (FzAs.same _), ?_⟩)
    refine litE (m := 3) rfl ?_
    refine seqE ?_
    refine seqE ?_
    refine brD hg (fun hg h2 => ?_) (fun hg h2 => ?_)
    · refine seqE ?_
      exact leafE hown hg
    · refine seqE ?_
      exact leafE hown hg
theorem szd_laws_szTask : Szd Task.bd laws_szTask := by
  intro x left hb h0 h1 h2
  unfold laws_szTask at h2 ⊢
  unfold Task.bd at hb ⊢
  cases c0 : decide ((laws_szSpan x.S left) < 0) with
  | true => simp [c0] at h2
  | false =>
  have p0 : 0 ≤ (laws_szSpan x.S left) := by simpa using c0
  have z0 := szd_laws_szSpan x.S left hb.1 h0 h1 p0
  have b0 := z0.1
  have u0 := z0.2
  have v0 : (laws_szSpan x.S left) ≤ 1048576 := by omega
  cases c1 : decide ((laws_szItemS x.Hand (laws_szSpan x.S left)) < 0) with
  | true => simp [c0, c1] at h2
  | false =>
  have p1 : 0 ≤ (laws_szItemS x.Hand (laws_szSpan x.S left)) := by simpa using c1
  have z1 := szd_laws_szItemS x.Hand (laws_szSpan x.S left) hb.2 p0 v0 p1
  have b1 := z1.1
  have u1 := z1.2
  have v1 : (laws_szItemS x.Hand (laws_szSpan x.S left)) ≤ 1048576 := by omega
  simp only [c0, c1, cond_false] at h2 ⊢
  exact ⟨⟨b0, b1⟩, by omega⟩
def laws_szTaskS_b1 (i1 : Nat) (s1 : Int) (a1 : Task) : Step (Int) Int :=
  (bif (decide ((laws_szTask a1 s1) < 0)) then (.done (-1)) else (.next (laws_szTask a1 s1)))
def laws_szTaskS (p0 : (List Task)) (p1 : Int) : Int :=
  (bif (decide ((IntKind.i64.wrap (p1 - (((p0).length : Nat) : Int))) < 0)) then (-1) else (Fin.get (fun s1 => s1) (loopL laws_szTaskS_b1 0 (IntKind.i64.wrap (p1 - (((p0).length : Nat) : Int))) p0)))
theorem c_laws_szTaskS (p0 : (List Task)) (p1 : Int) : FnOk prog 18 [.one (.s false 12 (List.map (Task.cells false) p0)), .one (.v (.int .i64 p1))] ⟨.one (.v (.int .i64 (laws_szTaskS p0 p1))), [], [], false⟩ := by
  refine FnOk.intro (E := env) envOk wide func18 rfl (by kernel_rfl) rfl rfl ?_
  have hg := laws_szTaskS.eq_1 p0 p1
  have hown : ∀ g : Int, AV.Own (AV.one (.v (.int .i64 g))) := fun g => .v _
  refine seqE ?_
  refine seqE ?_
  refine lenM fun hN1 => ?_
  refine seqE ?_
  refine seqE ?_
  refine brD hg (fun hg h2 => ?_) (fun hg h2 => ?_)
  · refine seqE ?_
    exact leafE hown hg
  · refine seqE ?_
    refine seqE ?_
    refine loopLE hg [0] (fun x1 => [(1, .one (.v (.int .i64 x1.s))), (5, .one (.v (.int .i64 ((x1.i : Nat) : Int))))]) (fun x1 => []) [] ?_ (fun x1 => ?_)
    · exact ⟨rfl, ⟨rfl, rfl, rfl, trivial⟩, trivial, trivial⟩
    refine seqE ?_
    refine seqE ?_
    refine lenM fun hN3 => ?_
    refine tstL (fun hi1 => ?_) (fun hi1 => ?_)
    · have hb1 := (x1.bdy hi1).trans (laws_szTaskS_b1.eq_1 ..)
      have hw1 := wrap_succ hi1 (by first | assumption | omega)
      refine seqE ?_
      refine seqE ?_
      refine idxAt hi1 ?_
      refine .inl (⟨_, _, c_laws_szTask (p0[x1.i]'hi1) x1.s, (FzAs.same _), ?_⟩)
      refine litE (m := 1) rfl ?_
      refine seqE ?_
      refine brD hb1 (fun hb1 h4 => ?_) (fun hb1 h4 => x1.goE hi1 hb1 [] ⟨rfl, ⟨rfl, (eqInt hw1), rfl, trivial⟩, trivial, trivial⟩)
      refine seqE ?_
      have hg := donE hg (x1.outD hi1 hb1)
      exact leafE hown hg
    have hg := finE hg (x1.fin hi1)
    refine seqE ?_
    exact leafE hown hg
theorem szd_laws_szTaskS : Szd (bdS Task.bd) laws_szTaskS := szS_ok (b := laws_szTaskS_b1) szd_laws_szTask (fun _ _ _ => rfl) (fun _ _ => rfl)
def laws_szDeed (p0 : Deed) (p1 : Int) : Int :=
  (bif (decide ((laws_szSpan p0.S p1) < 0)) then (-1) else (laws_szSpan p0.S p1))
theorem c_laws_szDeed (p0 : Deed) (p1 : Int) : FnOk prog 49 [.agg ((Deed.cells false) p0), .one (.v (.int .i64 p1))] ⟨.one (.v (.int .i64 (laws_szDeed p0 p1))), [], [], false⟩ := by
  refine FnOk.intro (E := env) envOk wide func49 rfl (by kernel_rfl) rfl rfl ?_
  have hg := laws_szDeed.eq_1 p0 p1
  have hown : ∀ g : Int, AV.Own (AV.one (.v (.int .i64 g))) := fun g => .v _
  refine seqE ?_
  refine litE (m := 0) rfl ?_
  refine seqE ?_
  refine .inl (⟨_, _, c_laws_szSpan p0.S p1, (FzAs.same _), ?_⟩)
  refine litE (m := 2) rfl ?_
  refine seqE ?_
  refine seqE ?_
  refine brD hg (fun hg h1 => ?_) (fun hg h1 => ?_)
  · refine seqE ?_
    exact leafE hown hg
  · refine seqE ?_
    exact leafE hown hg
theorem szd_laws_szDeed : Szd Deed.bd laws_szDeed := by
  intro x left hb h0 h1 h2
  unfold laws_szDeed at h2 ⊢
  unfold Deed.bd at hb ⊢
  cases c0 : decide ((laws_szSpan x.S left) < 0) with
  | true => simp [c0] at h2
  | false =>
  have p0 : 0 ≤ (laws_szSpan x.S left) := by simpa using c0
  have z0 := szd_laws_szSpan x.S left hb h0 h1 p0
  have b0 := z0.1
  have u0 := z0.2
  have v0 : (laws_szSpan x.S left) ≤ 1048576 := by omega
  simp only [c0, cond_false] at h2 ⊢
  exact ⟨b0, by omega⟩
def laws_szDeedS_b1 (i1 : Nat) (s1 : Int) (a1 : Deed) : Step (Int) Int :=
  (bif (decide ((laws_szDeed a1 s1) < 0)) then (.done (-1)) else (.next (laws_szDeed a1 s1)))
def laws_szDeedS (p0 : (List Deed)) (p1 : Int) : Int :=
  (bif (decide ((IntKind.i64.wrap (p1 - (((p0).length : Nat) : Int))) < 0)) then (-1) else (Fin.get (fun s1 => s1) (loopL laws_szDeedS_b1 0 (IntKind.i64.wrap (p1 - (((p0).length : Nat) : Int))) p0)))
theorem c_laws_szDeedS (p0 : (List Deed)) (p1 : Int) : FnOk prog 19 [.one (.s false 20 (List.map (Deed.cells false) p0)), .one (.v (.int .i64 p1))] ⟨.one (.v (.int .i64 (laws_szDeedS p0 p1))), [], [], false⟩ := by
  refine FnOk.intro (E := env) envOk wide func19 rfl (by kernel_rfl) rfl rfl ?_
  have hg := laws_szDeedS.eq_1 p0 p1
  have hown : ∀ g : Int, AV.Own (AV.one (.v (.int .i64 g))) := fun g => .v _
  refine seqE ?_
  refine seqE ?_
  refine lenM fun hN1 => ?_
  refine seqE ?_
  refine seqE ?_
  refine brD hg (fun hg h2 => ?_) (fun hg h2 => ?_)
  · refine seqE ?_
    exact leafE hown hg
  · refine seqE ?_
    refine seqE ?_
    refine loopLE hg [0] (fun x1 => [(1, .one (.v (.int .i64 x1.s))), (5, .one (.v (.int .i64 ((x1.i : Nat) : Int))))]) (fun x1 => []) [] ?_ (fun x1 => ?_)
    · exact ⟨rfl, ⟨rfl, rfl, rfl, trivial⟩, trivial, trivial⟩
    refine seqE ?_
    refine seqE ?_
    refine lenM fun hN3 => ?_
    refine tstL (fun hi1 => ?_) (fun hi1 => ?_)
    · have hb1 := (x1.bdy hi1).trans (laws_szDeedS_b1.eq_1 ..)
      have hw1 := wrap_succ hi1 (by first | assumption | omega)
      refine seqE ?_
      refine seqE ?_
      refine idxAt hi1 ?_
      refine .inl (⟨_, _, c_laws_szDeed (p0[x1.i]'hi1) x1.s, (FzAs.same _), ?_⟩)
      refine litE (m := 1) rfl ?_
      refine seqE ?_
      refine brD hb1 (fun hb1 h4 => ?_) (fun hb1 h4 => x1.goE hi1 hb1 [] ⟨rfl, ⟨rfl, (eqInt hw1), rfl, trivial⟩, trivial, trivial⟩)
      refine seqE ?_
      have hg := donE hg (x1.outD hi1 hb1)
      exact leafE hown hg
    have hg := finE hg (x1.fin hi1)
    refine seqE ?_
    exact leafE hown hg
theorem szd_laws_szDeedS : Szd (bdS Deed.bd) laws_szDeedS := szS_ok (b := laws_szDeedS_b1) szd_laws_szDeed (fun _ _ _ => rfl) (fun _ _ => rfl)
def laws_szWorld (p0 : World) (p1 : Int) : Int :=
  (bif (decide ((laws_szConf p0.C p1) < 0)) then (-1) else (bif (decide ((laws_szStripeS p0.St (laws_szConf p0.C p1)) < 0)) then (-1) else (bif (decide ((laws_szVerdictS p0.Cache (laws_szStripeS p0.St (laws_szConf p0.C p1))) < 0)) then (-1) else (bif (decide ((laws_szWheel p0.W (laws_szVerdictS p0.Cache (laws_szStripeS p0.St (laws_szConf p0.C p1)))) < 0)) then (-1) else (bif (decide ((laws_szTimerS p0.Due (laws_szWheel p0.W (laws_szVerdictS p0.Cache (laws_szStripeS p0.St (laws_szConf p0.C p1))))) < 0)) then (-1) else (bif (decide ((laws_szItemS p0.Queue (laws_szTimerS p0.Due (laws_szWheel p0.W (laws_szVerdictS p0.Cache (laws_szStripeS p0.St (laws_szConf p0.C p1)))))) < 0)) then (-1) else (bif (decide ((laws_szItemS p0.Out (laws_szItemS p0.Queue (laws_szTimerS p0.Due (laws_szWheel p0.W (laws_szVerdictS p0.Cache (laws_szStripeS p0.St (laws_szConf p0.C p1))))))) < 0)) then (-1) else (bif (decide ((laws_szTaskS p0.Tasks (laws_szItemS p0.Out (laws_szItemS p0.Queue (laws_szTimerS p0.Due (laws_szWheel p0.W (laws_szVerdictS p0.Cache (laws_szStripeS p0.St (laws_szConf p0.C p1)))))))) < 0)) then (-1) else (bif (decide ((laws_szDeedS p0.Deeds (laws_szTaskS p0.Tasks (laws_szItemS p0.Out (laws_szItemS p0.Queue (laws_szTimerS p0.Due (laws_szWheel p0.W (laws_szVerdictS p0.Cache (laws_szStripeS p0.St (laws_szConf p0.C p1))))))))) < 0)) then (-1) else (laws_szDeedS p0.Deeds (laws_szTaskS p0.Tasks (laws_szItemS p0.Out (laws_szItemS p0.Queue (laws_szTimerS p0.Due (laws_szWheel p0.W (laws_szVerdictS p0.Cache (laws_szStripeS p0.St (laws_szConf p0.C p1))))))))))))))))))
theorem c_laws_szWorld (p0 : World) (p1 : Int) : FnOk prog 5 [.agg ((World.cells false) p0), .one (.v (.int .i64 p1))] ⟨.one (.v (.int .i64 (laws_szWorld p0 p1))), [], [], false⟩ := by
  refine FnOk.intro (E := env) envOk wide func5 rfl (by kernel_rfl) rfl rfl ?_
  have hg := laws_szWorld.eq_1 p0 p1
  have hown : ∀ g : Int, AV.Own (AV.one (.v (.int .i64 g))) := fun g => .v _
  refine seqE ?_
  refine litE (m := 0) rfl ?_
  refine seqE ?_
  refine .inl (⟨_, _, c_laws_szConf p0.C p1, (FzAs.same _), ?_⟩)
  refine litE (m := 2) rfl ?_
  refine seqE ?_
  refine seqE ?_
  refine brD hg (fun hg h1 => ?_) (fun hg h1 => ?_)
  · refine seqE ?_
    exact leafE hown hg
  · refine seqE ?_
    refine .inl (⟨_, _, c_laws_szStripeS p0.St (laws_szConf p0.C p1), (FzAs.same _), ?_⟩)
    refine litE (m := 3) rfl ?_
    refine seqE ?_
    refine seqE ?_
    refine brD hg (fun hg h2 => ?_) (fun hg h2 => ?_)
    · refine seqE ?_
      exact leafE hown hg
    · refine seqE ?_
      refine .inl (⟨_, _, c_laws_szVerdictS p0.Cache (laws_szStripeS p0.St (laws_szConf p0.C p1)), (FzAs.same _), ?_⟩)
      refine litE (m := 4) rfl ?_
      refine seqE ?_
      refine seqE ?_
      refine brD hg (fun hg h3 => ?_) (fun hg h3 => ?_)
      · refine seqE ?_
        exact leafE hown hg
      · refine seqE ?_
        refine .inl (⟨_, _, c_laws_szWheel p0.W (laws_szVerdictS p0.Cache (laws_szStripeS p0.St (laws_szConf p0.C p1))), (FzAs.same _), ?_⟩)
        refine litE (m := 5) rfl ?_
        refine seqE ?_
        refine seqE ?_
        refine brD hg (fun hg h4 => ?_) (fun hg h4 => ?_)
        · refine seqE ?_
          exact leafE hown hg
        · refine seqE ?_
          refine .inl (⟨_, _, c_laws_szTimerS p0.Due (laws_szWheel p0.W (laws_szVerdictS p0.Cache (laws_szStripeS p0.St (laws_szConf p0.C p1)))), (FzAs.same _), ?_⟩)
          refine litE (m := 6) rfl ?_
          refine seqE ?_
          refine seqE ?_
          refine brD hg (fun hg h5 => ?_) (fun hg h5 => ?_)
          · refine seqE ?_
            exact leafE hown hg
          · refine seqE ?_
            refine .inl (⟨_, _, c_laws_szItemS p0.Queue (laws_szTimerS p0.Due (laws_szWheel p0.W (laws_szVerdictS p0.Cache (laws_szStripeS p0.St (laws_szConf p0.C p1))))), (FzAs.same _), ?_⟩)
            refine litE (m := 7) rfl ?_
            refine seqE ?_
            refine seqE ?_
            refine brD hg (fun hg h6 => ?_) (fun hg h6 => ?_)
            · refine seqE ?_
              exact leafE hown hg
            · refine seqE ?_
              refine .inl (⟨_, _, c_laws_szItemS p0.Out (laws_szItemS p0.Queue (laws_szTimerS p0.Due (laws_szWheel p0.W (laws_szVerdictS p0.Cache (laws_szStripeS p0.St (laws_szConf p0.C p1)))))), (FzAs.same _), ?_⟩)
              refine litE (m := 8) rfl ?_
              refine seqE ?_
              refine seqE ?_
              refine brD hg (fun hg h7 => ?_) (fun hg h7 => ?_)
              · refine seqE ?_
                exact leafE hown hg
              · refine seqE ?_
                refine .inl (⟨_, _, c_laws_szTaskS p0.Tasks (laws_szItemS p0.Out (laws_szItemS p0.Queue (laws_szTimerS p0.Due (laws_szWheel p0.W (laws_szVerdictS p0.Cache (laws_szStripeS p0.St (laws_szConf p0.C p1))))))), (FzAs.same _), ?_⟩)
                refine litE (m := 9) rfl ?_
                refine seqE ?_
                refine seqE ?_
                refine brD hg (fun hg h8 => ?_) (fun hg h8 => ?_)
                · refine seqE ?_
                  exact leafE hown hg
                · refine seqE ?_
                  refine .inl (⟨_, _, c_laws_szDeedS p0.Deeds (laws_szTaskS p0.Tasks (laws_szItemS p0.Out (laws_szItemS p0.Queue (laws_szTimerS p0.Due (laws_szWheel p0.W (laws_szVerdictS p0.Cache (laws_szStripeS p0.St (laws_szConf p0.C p1)))))))), (FzAs.same _), ?_⟩)
                  refine litE (m := 10) rfl ?_
                  refine seqE ?_
                  refine seqE ?_
                  refine brD hg (fun hg h9 => ?_) (fun hg h9 => ?_)
                  · refine seqE ?_
                    exact leafE hown hg
                  · refine seqE ?_
                    exact leafE hown hg
theorem szd_laws_szWorld : Szd World.bd laws_szWorld := by
  intro x left hb h0 h1 h2
  unfold laws_szWorld at h2 ⊢
  unfold World.bd at hb ⊢
  cases c0 : decide ((laws_szConf x.C left) < 0) with
  | true => simp [c0] at h2
  | false =>
  have p0 : 0 ≤ (laws_szConf x.C left) := by simpa using c0
  have z0 := szd_laws_szConf x.C left hb.1 h0 h1 p0
  have b0 := z0.1
  have u0 := z0.2
  have v0 : (laws_szConf x.C left) ≤ 1048576 := by omega
  cases c1 : decide ((laws_szStripeS x.St (laws_szConf x.C left)) < 0) with
  | true => simp [c0, c1] at h2
  | false =>
  have p1 : 0 ≤ (laws_szStripeS x.St (laws_szConf x.C left)) := by simpa using c1
  have z1 := szd_laws_szStripeS x.St (laws_szConf x.C left) hb.2.1 p0 v0 p1
  have b1 := z1.1
  have u1 := z1.2
  have v1 : (laws_szStripeS x.St (laws_szConf x.C left)) ≤ 1048576 := by omega
  cases c2 : decide ((laws_szVerdictS x.Cache (laws_szStripeS x.St (laws_szConf x.C left))) < 0) with
  | true => simp [c0, c1, c2] at h2
  | false =>
  have p2 : 0 ≤ (laws_szVerdictS x.Cache (laws_szStripeS x.St (laws_szConf x.C left))) := by simpa using c2
  have z2 := szd_laws_szVerdictS x.Cache (laws_szStripeS x.St (laws_szConf x.C left)) hb.2.2.1 p1 v1 p2
  have b2 := z2.1
  have u2 := z2.2
  have v2 : (laws_szVerdictS x.Cache (laws_szStripeS x.St (laws_szConf x.C left))) ≤ 1048576 := by omega
  cases c3 : decide ((laws_szWheel x.W (laws_szVerdictS x.Cache (laws_szStripeS x.St (laws_szConf x.C left)))) < 0) with
  | true => simp [c0, c1, c2, c3] at h2
  | false =>
  have p3 : 0 ≤ (laws_szWheel x.W (laws_szVerdictS x.Cache (laws_szStripeS x.St (laws_szConf x.C left)))) := by simpa using c3
  have z3 := szd_laws_szWheel x.W (laws_szVerdictS x.Cache (laws_szStripeS x.St (laws_szConf x.C left))) hb.2.2.2.1 p2 v2 p3
  have b3 := z3.1
  have u3 := z3.2
  have v3 : (laws_szWheel x.W (laws_szVerdictS x.Cache (laws_szStripeS x.St (laws_szConf x.C left)))) ≤ 1048576 := by omega
  cases c4 : decide ((laws_szTimerS x.Due (laws_szWheel x.W (laws_szVerdictS x.Cache (laws_szStripeS x.St (laws_szConf x.C left))))) < 0) with
  | true => simp [c0, c1, c2, c3, c4] at h2
  | false =>
  have p4 : 0 ≤ (laws_szTimerS x.Due (laws_szWheel x.W (laws_szVerdictS x.Cache (laws_szStripeS x.St (laws_szConf x.C left))))) := by simpa using c4
  have z4 := szd_laws_szTimerS x.Due (laws_szWheel x.W (laws_szVerdictS x.Cache (laws_szStripeS x.St (laws_szConf x.C left)))) hb.2.2.2.2.1 p3 v3 p4
  have b4 := z4.1
  have u4 := z4.2
  have v4 : (laws_szTimerS x.Due (laws_szWheel x.W (laws_szVerdictS x.Cache (laws_szStripeS x.St (laws_szConf x.C left))))) ≤ 1048576 := by omega
  cases c5 : decide ((laws_szItemS x.Queue (laws_szTimerS x.Due (laws_szWheel x.W (laws_szVerdictS x.Cache (laws_szStripeS x.St (laws_szConf x.C left)))))) < 0) with
  | true => simp [c0, c1, c2, c3, c4, c5] at h2
  | false =>
  have p5 : 0 ≤ (laws_szItemS x.Queue (laws_szTimerS x.Due (laws_szWheel x.W (laws_szVerdictS x.Cache (laws_szStripeS x.St (laws_szConf x.C left)))))) := by simpa using c5
  have z5 := szd_laws_szItemS x.Queue (laws_szTimerS x.Due (laws_szWheel x.W (laws_szVerdictS x.Cache (laws_szStripeS x.St (laws_szConf x.C left))))) hb.2.2.2.2.2.1 p4 v4 p5
  have b5 := z5.1
  have u5 := z5.2
  have v5 : (laws_szItemS x.Queue (laws_szTimerS x.Due (laws_szWheel x.W (laws_szVerdictS x.Cache (laws_szStripeS x.St (laws_szConf x.C left)))))) ≤ 1048576 := by omega
  cases c6 : decide ((laws_szItemS x.Out (laws_szItemS x.Queue (laws_szTimerS x.Due (laws_szWheel x.W (laws_szVerdictS x.Cache (laws_szStripeS x.St (laws_szConf x.C left))))))) < 0) with
  | true => simp [c0, c1, c2, c3, c4, c5, c6] at h2
  | false =>
  have p6 : 0 ≤ (laws_szItemS x.Out (laws_szItemS x.Queue (laws_szTimerS x.Due (laws_szWheel x.W (laws_szVerdictS x.Cache (laws_szStripeS x.St (laws_szConf x.C left))))))) := by simpa using c6
  have z6 := szd_laws_szItemS x.Out (laws_szItemS x.Queue (laws_szTimerS x.Due (laws_szWheel x.W (laws_szVerdictS x.Cache (laws_szStripeS x.St (laws_szConf x.C left)))))) hb.2.2.2.2.2.2.1 p5 v5 p6
  have b6 := z6.1
  have u6 := z6.2
  have v6 : (laws_szItemS x.Out (laws_szItemS x.Queue (laws_szTimerS x.Due (laws_szWheel x.W (laws_szVerdictS x.Cache (laws_szStripeS x.St (laws_szConf x.C left))))))) ≤ 1048576 := by omega
  cases c7 : decide ((laws_szTaskS x.Tasks (laws_szItemS x.Out (laws_szItemS x.Queue (laws_szTimerS x.Due (laws_szWheel x.W (laws_szVerdictS x.Cache (laws_szStripeS x.St (laws_szConf x.C left)))))))) < 0) with
  | true => simp [c0, c1, c2, c3, c4, c5, c6, c7] at h2
  | false =>
  have p7 : 0 ≤ (laws_szTaskS x.Tasks (laws_szItemS x.Out (laws_szItemS x.Queue (laws_szTimerS x.Due (laws_szWheel x.W (laws_szVerdictS x.Cache (laws_szStripeS x.St (laws_szConf x.C left)))))))) := by simpa using c7
  have z7 := szd_laws_szTaskS x.Tasks (laws_szItemS x.Out (laws_szItemS x.Queue (laws_szTimerS x.Due (laws_szWheel x.W (laws_szVerdictS x.Cache (laws_szStripeS x.St (laws_szConf x.C left))))))) hb.2.2.2.2.2.2.2.1 p6 v6 p7
  have b7 := z7.1
  have u7 := z7.2
  have v7 : (laws_szTaskS x.Tasks (laws_szItemS x.Out (laws_szItemS x.Queue (laws_szTimerS x.Due (laws_szWheel x.W (laws_szVerdictS x.Cache (laws_szStripeS x.St (laws_szConf x.C left)))))))) ≤ 1048576 := by omega
  cases c8 : decide ((laws_szDeedS x.Deeds (laws_szTaskS x.Tasks (laws_szItemS x.Out (laws_szItemS x.Queue (laws_szTimerS x.Due (laws_szWheel x.W (laws_szVerdictS x.Cache (laws_szStripeS x.St (laws_szConf x.C left))))))))) < 0) with
  | true => simp [c0, c1, c2, c3, c4, c5, c6, c7, c8] at h2
  | false =>
  have p8 : 0 ≤ (laws_szDeedS x.Deeds (laws_szTaskS x.Tasks (laws_szItemS x.Out (laws_szItemS x.Queue (laws_szTimerS x.Due (laws_szWheel x.W (laws_szVerdictS x.Cache (laws_szStripeS x.St (laws_szConf x.C left))))))))) := by simpa using c8
  have z8 := szd_laws_szDeedS x.Deeds (laws_szTaskS x.Tasks (laws_szItemS x.Out (laws_szItemS x.Queue (laws_szTimerS x.Due (laws_szWheel x.W (laws_szVerdictS x.Cache (laws_szStripeS x.St (laws_szConf x.C left)))))))) hb.2.2.2.2.2.2.2.2 p7 v7 p8
  have b8 := z8.1
  have u8 := z8.2
  have v8 : (laws_szDeedS x.Deeds (laws_szTaskS x.Tasks (laws_szItemS x.Out (laws_szItemS x.Queue (laws_szTimerS x.Due (laws_szWheel x.W (laws_szVerdictS x.Cache (laws_szStripeS x.St (laws_szConf x.C left))))))))) ≤ 1048576 := by omega
  simp only [c0, c1, c2, c3, c4, c5, c6, c7, c8, cond_false] at h2 ⊢
  exact ⟨⟨b0, b1, b2, b3, b4, b5, b6, b7, b8⟩, by omega⟩
def laws_toPolS_b1 (r0 : (Pol → Pol)) (i1 : Nat) (s1 : (List Pol)) (a1 : Pol) : Step ((List Pol)) (List Pol) :=
  (.next (List.set s1 i1 (r0 a1)))
def laws_toPolS (r0 : Pol → Pol) (p0 : (List Pol)) : (List Pol) :=
  (Fin.get (fun s1 => s1) (loopL (laws_toPolS_b1 r0) 0 (List.replicate (p0).length (default : Pol)) p0))
theorem c_laws_toPolS (r0 : Pol → Pol) (p0 : (List Pol)) (m0 : Nat) (hrec0 : ∀ (z0 : Pol), Pol.dep z0 < m0 → Pol.bd 1048576 z0 → FnOk prog 61 [.agg (Pol.opn false z0)] ⟨.agg (Pol.opn true (r0 z0)), [], [], false⟩) (hm0 : ∀ x ∈ p0, Pol.dep x < m0) (hs : bdS Pol.bd 1048576 p0) : FnOk prog 98 [.one (.s false 5 (List.map (Pol.cells false) p0))] ⟨.one (.s true 5 (List.map (Pol.cells true) (laws_toPolS r0 p0))), [], [], false⟩ := by
  refine FnOk.intro (E := env) envOk wide func98 rfl (by kernel_rfl) rfl rfl ?_
  have hs1 := hs.1
  have hg := laws_toPolS.eq_1 r0 p0
  have hown : ∀ g : (List Pol), AV.Own (AV.one (.s true 5 (List.map (Pol.cells true) g))) := fun g => ownSl own_Pol _
  refine seqE ?_
  refine seqE ?_
  refine lenM fun hN1 => ?_
  refine And.intro (by exact ⟨rfl, by omega, by show ((72 : Nat) : Int) * _ ≤ _; omega, by omega⟩) (rowsE (Y := List.map (Pol.cells true) (List.replicate (p0).length (default : Pol))) (by rw [List.map_replicate]; rfl) ?_)
  refine litE (m := 0) rfl ?_
  refine seqE ?_
  refine seqE ?_
  refine loopLI (fun _ s => (s).length = (p0).length) hg (by simp) [0, 3] (fun x1 => [(4, .one (.v (.int .i64 ((x1.i : Nat) : Int))))]) (fun x1 => [.new ⟨5, false, List.map (Pol.cells true) x1.s, 0⟩]) [some 0] ?_ (fun x1 => ?_)
  · exact ⟨rfl, ⟨rfl, rfl, ⟨rfl, rfl, rfl, rfl, by (first | rfl | omega | (dsimp only; omega) | (simp; done) | (simp; omega) | (simp [LstSt.init, LstSt.step, LstInv.init, CntSt.init, CntSt.step, CntInv.init, WhlSt.init, WhlSt.step]; done) | (simp [LstSt.init, LstSt.step, LstInv.init, CntSt.init, CntSt.step, CntInv.init, WhlSt.init, WhlSt.step]; omega))⟩, trivial⟩, ⟨⟨rfl, rfl, rfl⟩, trivial⟩, trivial⟩
  have hI1 : (x1.s).length = (p0).length := by simpa using x1.hI
  refine seqE ?_
  refine seqE ?_
  refine lenM fun hN2 => ?_
  refine tstL (fun hi1 => ?_) (fun hi1 => ?_)
  · have hb1 := (x1.bdy hi1).trans (laws_toPolS_b1.eq_1 ..)
    have hw1 := wrap_succ hi1 (by first | assumption | omega)
    refine seqE ?_
    refine idxAtR (Pol.cells_eq false) hi1 ?_
    refine .inl (⟨_, _, hrec0 (p0[x1.i]'hi1) (by first | exact hm0 _ (List.getElem_mem _) | exact hm0 _ (List.mem_of_getElem? (by assumption)) | exact Nat.lt_of_lt_of_le (Pol.dep_lt (List.getElem_mem _)) (Nat.le_of_lt_succ hd0) | exact Nat.lt_of_lt_of_le (Pol.dep_lt (List.mem_of_getElem? (by assumption))) (Nat.le_of_lt_succ hd0)) (by exact hs.get hi1), (FzAs.same _), ?_⟩)
    refine litE (m := 2) rfl ?_
    refine andE (by (first | omega | (simp (disch := omega) only [wrap_small, mid_eq, List.length_map]; omega) | (simp; done) | (simp; omega) | (simp at *; omega) | (simp at *; done) | (simp_all; done) | (simp_all; omega))) ?_
    refine rowsE (Y := List.map (Pol.cells true) (List.set x1.s x1.i (r0 (p0[x1.i]'hi1)))) (by exact setMapE (by simp) (fun a ha => by first | rfl | (simp only [ha, Option.getD_some]; rfl) | (obtain ⟨_, rfl⟩ := List.getElem?_eq_some_iff.1 ha; rfl) | (simp only [Pol.cells_eq]; rfl) | (simp only [ha, Option.getD_some, Pol.cells_eq]; rfl))) ?_
    exact x1.goE hi1 hb1 (by simpa using x1.hI) [some 0] ⟨rfl, ⟨(eqInt hw1), rfl, ⟨rfl, rfl, rfl, rfl, by (first | rfl | omega | (dsimp only; omega) | (simp; done) | (simp; omega) | (simp [LstSt.init, LstSt.step, LstInv.init, CntSt.init, CntSt.step, CntInv.init, WhlSt.init, WhlSt.step]; done) | (simp [LstSt.init, LstSt.step, LstInv.init, CntSt.init, CntSt.step, CntInv.init, WhlSt.init, WhlSt.step]; omega))⟩, trivial⟩, ⟨⟨rfl, rfl, rfl⟩, trivial⟩, trivial⟩
  have hg := finE hg (x1.fin hi1)
  refine seqE ?_
  exact leafE hown hg
def laws_toPolR : Nat → Pol → Pol
  | 0, _ => default
  | n + 1, p0 => (Pol.mk p0.Kind p0.N p0.Key p0.Text (laws_toPolS (laws_toPolR n) p0.L))
theorem cR_laws_toPol : ∀ (n : Nat) (p0 : Pol), Pol.dep p0 < n → Pol.bd 1048576 p0 → FnOk prog 61 [.agg (Pol.opn false p0)] ⟨.agg (Pol.opn true (laws_toPolR n p0)), [], [], false⟩ := by
  intro n
  induction n with
  | zero => intro p0 hd0; omega
  | succ n ih =>
    intro p0 hd0 hs
    refine FnOk.intro (E := env) envOk wide func61 rfl (by kernel_rfl) rfl rfl ?_
    rw [Pol.bd_eq] at hs
    have hg : laws_toPolR (n + 1) p0 = _ := laws_toPolR.eq_2 ..
    have hown : ∀ g : Pol, AV.Own (AV.agg (Pol.opn true g)) := fun g => ownO_Pol _
    refine seqE ?_
    refine litE (m := 0) rfl ?_
    refine litE (m := 1) rfl ?_
    refine seqE ?_
    refine litE (m := 2) rfl ?_
    refine seqE ?_
    refine seqE ?_
    refine seqE ?_
    refine seqE ?_
    refine seqE ?_
    refine .inl (⟨_, _, c_laws_toPolS (laws_toPolR n) p0.L n ih (by first | exact hm0 | exact fun x hx => Nat.lt_of_lt_of_le (Pol.dep_lt hx) (Nat.le_of_lt_succ hd0)) (by exact hs.2.2), (FzAs.same _), ?_⟩)
    refine litE (m := 4) rfl ?_
    refine seqE ?_
    exact leafE hown hg
def laws_toPol (p0 : Pol) : Pol := laws_toPolR (Pol.dep p0 + 1) p0
theorem c_laws_toPol (p0 : Pol) (hs : Pol.bd 1048576 p0) : FnOk prog 61 [.agg (Pol.opn false p0)] ⟨.agg (Pol.opn true (laws_toPol p0)), [], [], false⟩ := cR_laws_toPol _ p0 (Nat.lt_succ_self _) hs
theorem idR_laws_toPol : ∀ (n : Nat) (x : Pol), Pol.dep x < n → laws_toPolR n x = x := by
  intro n
  induction n with
  | zero => intro x h; omega
  | succ n ih =>
    intro x h
    have e : laws_toPolS (laws_toPolR n) x.L = x.L := setS_okM (b := laws_toPolS_b1 (laws_toPolR n)) x.L (fun a ha => ih a (Nat.lt_of_lt_of_le (Pol.dep_lt ha) (Nat.le_of_lt_succ h))) (fun _ _ _ => rfl) (fun _ => rfl)
    cases x
    simp only [laws_toPolR]
    simp only at e
    rw [e]
theorem id_laws_toPol (x : Pol) : laws_toPol x = x := idR_laws_toPol _ x (Nat.lt_succ_self _)
def laws_toConf (p0 : Conf) : Conf :=
  (Conf.mk p0.Stripes p0.Wait p0.Budget p0.Cache p0.Queue p0.Rate p0.Burst (laws_toPol p0.Rule))
theorem c_laws_toConf (p0 : Conf) (hs : Conf.bd 1048576 p0) : FnOk prog 22 [.agg ((Conf.cells false) p0)] ⟨.agg ((Conf.cells true) (laws_toConf p0)), [], [], false⟩ := by
  refine FnOk.intro (E := env) envOk wide func22 rfl (by kernel_rfl) rfl rfl ?_
  unfold Conf.bd at hs
  have hg := laws_toConf.eq_1 p0
  have hown : ∀ g : Conf, AV.Own (AV.agg ((Conf.cells true) g)) := fun g => own_Conf _
  refine seqE ?_
  refine litE (m := 0) rfl ?_
  refine litE (m := 1) rfl ?_
  refine seqE ?_
  refine litE (m := 2) rfl ?_
  refine seqE ?_
  refine seqE ?_
  refine seqE ?_
  refine seqE ?_
  refine seqE ?_
  refine seqE ?_
  refine seqE ?_
  refine seqE ?_
  refine .inl (⟨_, _, c_laws_toPol p0.Rule (by exact hs), (FzAs.same _), ?_⟩)
  refine litE (m := 4) rfl ?_
  refine seqE ?_
  exact leafE hown hg
theorem id_laws_toConf (x : Conf) : laws_toConf x = x := by
  first | rfl | (simp only [laws_toConf, id_laws_toPol]; done) | (simp only [laws_toConf, id_laws_toPol]; rfl)
def laws_toAttr (p0 : Attr) : Attr :=
  p0
theorem c_laws_toAttr (p0 : Attr) : FnOk prog 164 [.agg (Attr.cells p0)] ⟨.agg (Attr.cells (laws_toAttr p0)), [], [], false⟩ := by
  refine FnOk.intro (E := env) envOk wide func164 rfl (by kernel_rfl) rfl rfl ?_
  have hg := laws_toAttr.eq_1 p0
  have hown : ∀ g : Attr, AV.Own (AV.agg (Attr.cells g)) := fun g => own_Attr _
  refine seqE ?_
  refine litE (m := 0) rfl ?_
  refine litE (m := 1) rfl ?_
  refine seqE ?_
  refine litE (m := 2) rfl ?_
  refine seqE ?_
  refine seqE ?_
  refine seqE ?_
  refine seqE ?_
  refine seqE ?_
  exact leafE hown hg
theorem id_laws_toAttr (x : Attr) : laws_toAttr x = x := by
  first | rfl | (simp only [laws_toAttr]; done) | (simp only [laws_toAttr]; rfl)
def laws_toAttrS_b1 (i1 : Nat) (s1 : (List Attr)) (a1 : Attr) : Step ((List Attr)) (List Attr) :=
  (.next (List.set s1 i1 (laws_toAttr a1)))
def laws_toAttrS (p0 : (List Attr)) : (List Attr) :=
  (Fin.get (fun s1 => s1) (loopL laws_toAttrS_b1 0 (List.replicate (p0).length (default : Attr)) p0))
theorem c_laws_toAttrS (p0 : (List Attr)) (hs : bdS Attr.bd 1048576 p0) : FnOk prog 136 [.one (.s false 4 (List.map Attr.cells p0))] ⟨.one (.s true 4 (List.map Attr.cells (laws_toAttrS p0))), [], [], false⟩ := by
  refine FnOk.intro (E := env) envOk wide func136 rfl (by kernel_rfl) rfl rfl ?_
  have hs1 := hs.1
  have hg := laws_toAttrS.eq_1 p0
  have hown : ∀ g : (List Attr), AV.Own (AV.one (.s true 4 (List.map Attr.cells g))) := fun g => ownSl own_Attr _
  refine seqE ?_
  refine seqE ?_
  refine lenM fun hN1 => ?_
  refine And.intro (by exact ⟨rfl, by omega, by show ((48 : Nat) : Int) * _ ≤ _; omega, by omega⟩) (rowsE (Y := List.map Attr.cells (List.replicate (p0).length (default : Attr))) (by rw [List.map_replicate]; rfl) ?_)
  refine litE (m := 0) rfl ?_
  refine seqE ?_
  refine seqE ?_
  refine loopLI (fun _ s => (s).length = (p0).length) hg (by simp) [0, 3] (fun x1 => [(4, .one (.v (.int .i64 ((x1.i : Nat) : Int))))]) (fun x1 => [.new ⟨4, false, List.map Attr.cells x1.s, 0⟩]) [some 0] ?_ (fun x1 => ?_)
  · exact ⟨rfl, ⟨rfl, rfl, ⟨rfl, rfl, rfl, rfl, by (first | rfl | omega | (dsimp only; omega) | (simp; done) | (simp; omega) | (simp [LstSt.init, LstSt.step, LstInv.init, CntSt.init, CntSt.step, CntInv.init, WhlSt.init, WhlSt.step]; done) | (simp [LstSt.init, LstSt.step, LstInv.init, CntSt.init, CntSt.step, CntInv.init, WhlSt.init, WhlSt.step]; omega))⟩, trivial⟩, ⟨⟨rfl, rfl, rfl⟩, trivial⟩, trivial⟩
  have hI1 : (x1.s).length = (p0).length := by simpa using x1.hI
  refine seqE ?_
  refine seqE ?_
  refine lenM fun hN2 => ?_
  refine tstL (fun hi1 => ?_) (fun hi1 => ?_)
  · have hb1 := (x1.bdy hi1).trans (laws_toAttrS_b1.eq_1 ..)
    have hw1 := wrap_succ hi1 (by first | assumption | omega)
    refine seqE ?_
    refine idxAt hi1 ?_
    refine .inl (⟨_, _, c_laws_toAttr (p0[x1.i]'hi1), (FzAs.same _), ?_⟩)
    refine litE (m := 2) rfl ?_
    refine andE (by (first | omega | (simp (disch := omega) only [wrap_small, mid_eq, List.length_map]; omega) | (simp; done) | (simp; omega) | (simp at *; omega) | (simp at *; done) | (simp_all; done) | (simp_all; omega))) ?_
    refine rowsE (Y := List.map Attr.cells (List.set x1.s x1.i (laws_toAttr (p0[x1.i]'hi1)))) (by exact setMapE (by simp) (fun a ha => by first | rfl | (simp only [ha, Option.getD_some]; rfl) | (obtain ⟨_, rfl⟩ := List.getElem?_eq_some_iff.1 ha; rfl) | (simp only [Pol.cells_eq]; rfl) | (simp only [ha, Option.getD_some, Pol.cells_eq]; rfl))) ?_
    exact x1.goE hi1 hb1 (by simpa using x1.hI) [some 0] ⟨rfl, ⟨(eqInt hw1), rfl, ⟨rfl, rfl, rfl, rfl, by (first | rfl | omega | (dsimp only; omega) | (simp; done) | (simp; omega) | (simp [LstSt.init, LstSt.step, LstInv.init, CntSt.init, CntSt.step, CntInv.init, WhlSt.init, WhlSt.step]; done) | (simp [LstSt.init, LstSt.step, LstInv.init, CntSt.init, CntSt.step, CntInv.init, WhlSt.init, WhlSt.step]; omega))⟩, trivial⟩, ⟨⟨rfl, rfl, rfl⟩, trivial⟩, trivial⟩
  have hg := finE hg (x1.fin hi1)
  refine seqE ?_
  exact leafE hown hg
theorem id_laws_toAttrS (x : (List Attr)) : laws_toAttrS x = x := setS_ok (b := laws_toAttrS_b1) id_laws_toAttr (fun _ _ _ => rfl) (fun _ => rfl) x
def laws_toSpan (p0 : Span) : Span :=
  (Span.mk p0.Trace p0.Id p0.Start p0.End p0.Err (laws_toAttrS p0.Attrs))
theorem c_laws_toSpan (p0 : Span) (hs : Span.bd 1048576 p0) : FnOk prog 100 [.agg ((Span.cells false) p0)] ⟨.agg ((Span.cells true) (laws_toSpan p0)), [], [], false⟩ := by
  refine FnOk.intro (E := env) envOk wide func100 rfl (by kernel_rfl) rfl rfl ?_
  unfold Span.bd at hs
  have hg := laws_toSpan.eq_1 p0
  have hown : ∀ g : Span, AV.Own (AV.agg ((Span.cells true) g)) := fun g => own_Span _
  refine seqE ?_
  refine litE (m := 0) rfl ?_
  refine litE (m := 1) rfl ?_
  refine seqE ?_
  refine litE (m := 2) rfl ?_
  refine seqE ?_
  refine seqE ?_
  refine seqE ?_
  refine seqE ?_
  refine seqE ?_
  refine seqE ?_
  refine .inl (⟨_, _, c_laws_toAttrS p0.Attrs (by exact hs), (FzAs.same _), ?_⟩)
  refine litE (m := 4) rfl ?_
  refine seqE ?_
  exact leafE hown hg
theorem id_laws_toSpan (x : Span) : laws_toSpan x = x := by
  first | rfl | (simp only [laws_toSpan, id_laws_toAttrS]; done) | (simp only [laws_toSpan, id_laws_toAttrS]; rfl)
def laws_toSpanS_b1 (i1 : Nat) (s1 : (List Span)) (a1 : Span) : Step ((List Span)) (List Span) :=
  (.next (List.set s1 i1 (laws_toSpan a1)))
def laws_toSpanS (p0 : (List Span)) : (List Span) :=
  (Fin.get (fun s1 => s1) (loopL laws_toSpanS_b1 0 (List.replicate (p0).length (default : Span)) p0))
theorem c_laws_toSpanS (p0 : (List Span)) (hs : bdS Span.bd 1048576 p0) : FnOk prog 163 [.one (.s false 6 (List.map (Span.cells false) p0))] ⟨.one (.s true 6 (List.map (Span.cells true) (laws_toSpanS p0))), [], [], false⟩ := by
  refine FnOk.intro (E := env) envOk wide func163 rfl (by kernel_rfl) rfl rfl ?_
  have hs1 := hs.1
  have hg := laws_toSpanS.eq_1 p0
  have hown : ∀ g : (List Span), AV.Own (AV.one (.s true 6 (List.map (Span.cells true) g))) := fun g => ownSl own_Span _
  refine seqE ?_
  refine seqE ?_
  refine lenM fun hN1 => ?_
  refine And.intro (by exact ⟨rfl, by omega, by show ((64 : Nat) : Int) * _ ≤ _; omega, by omega⟩) (rowsE (Y := List.map (Span.cells true) (List.replicate (p0).length (default : Span))) (by rw [List.map_replicate]; rfl) ?_)
  refine litE (m := 0) rfl ?_
  refine seqE ?_
  refine seqE ?_
  refine loopLI (fun _ s => (s).length = (p0).length) hg (by simp) [0, 3] (fun x1 => [(4, .one (.v (.int .i64 ((x1.i : Nat) : Int))))]) (fun x1 => [.new ⟨6, false, List.map (Span.cells true) x1.s, 0⟩]) [some 0] ?_ (fun x1 => ?_)
  · exact ⟨rfl, ⟨rfl, rfl, ⟨rfl, rfl, rfl, rfl, by (first | rfl | omega | (dsimp only; omega) | (simp; done) | (simp; omega) | (simp [LstSt.init, LstSt.step, LstInv.init, CntSt.init, CntSt.step, CntInv.init, WhlSt.init, WhlSt.step]; done) | (simp [LstSt.init, LstSt.step, LstInv.init, CntSt.init, CntSt.step, CntInv.init, WhlSt.init, WhlSt.step]; omega))⟩, trivial⟩, ⟨⟨rfl, rfl, rfl⟩, trivial⟩, trivial⟩
  have hI1 : (x1.s).length = (p0).length := by simpa using x1.hI
  refine seqE ?_
  refine seqE ?_
  refine lenM fun hN2 => ?_
  refine tstL (fun hi1 => ?_) (fun hi1 => ?_)
  · have hb1 := (x1.bdy hi1).trans (laws_toSpanS_b1.eq_1 ..)
    have hw1 := wrap_succ hi1 (by first | assumption | omega)
    refine seqE ?_
    refine idxAt hi1 ?_
    refine .inl (⟨_, _, c_laws_toSpan (p0[x1.i]'hi1) (by exact hs.get hi1), (FzAs.same _), ?_⟩)
    refine litE (m := 2) rfl ?_
    refine andE (by (first | omega | (simp (disch := omega) only [wrap_small, mid_eq, List.length_map]; omega) | (simp; done) | (simp; omega) | (simp at *; omega) | (simp at *; done) | (simp_all; done) | (simp_all; omega))) ?_
    refine rowsE (Y := List.map (Span.cells true) (List.set x1.s x1.i (laws_toSpan (p0[x1.i]'hi1)))) (by exact setMapE (by simp) (fun a ha => by first | rfl | (simp only [ha, Option.getD_some]; rfl) | (obtain ⟨_, rfl⟩ := List.getElem?_eq_some_iff.1 ha; rfl) | (simp only [Pol.cells_eq]; rfl) | (simp only [ha, Option.getD_some, Pol.cells_eq]; rfl))) ?_
    exact x1.goE hi1 hb1 (by simpa using x1.hI) [some 0] ⟨rfl, ⟨(eqInt hw1), rfl, ⟨rfl, rfl, rfl, rfl, by (first | rfl | omega | (dsimp only; omega) | (simp; done) | (simp; omega) | (simp [LstSt.init, LstSt.step, LstInv.init, CntSt.init, CntSt.step, CntInv.init, WhlSt.init, WhlSt.step]; done) | (simp [LstSt.init, LstSt.step, LstInv.init, CntSt.init, CntSt.step, CntInv.init, WhlSt.init, WhlSt.step]; omega))⟩, trivial⟩, ⟨⟨rfl, rfl, rfl⟩, trivial⟩, trivial⟩
  have hg := finE hg (x1.fin hi1)
  refine seqE ?_
  exact leafE hown hg
theorem id_laws_toSpanS (x : (List Span)) : laws_toSpanS x = x := setS_ok (b := laws_toSpanS_b1) id_laws_toSpan (fun _ _ _ => rfl) (fun _ => rfl) x
def laws_toTrail (p0 : Trail) : Trail :=
  (Trail.mk p0.Id p0.Stamp p0.First (laws_toSpanS p0.Spans))
theorem c_laws_toTrail (p0 : Trail) (hs : Trail.bd 1048576 p0) : FnOk prog 135 [.agg ((Trail.cells false) p0)] ⟨.agg ((Trail.cells true) (laws_toTrail p0)), [], [], false⟩ := by
  refine FnOk.intro (E := env) envOk wide func135 rfl (by kernel_rfl) rfl rfl ?_
  unfold Trail.bd at hs
  have hg := laws_toTrail.eq_1 p0
  have hown : ∀ g : Trail, AV.Own (AV.agg ((Trail.cells true) g)) := fun g => own_Trail _
  refine seqE ?_
  refine litE (m := 0) rfl ?_
  refine litE (m := 1) rfl ?_
  refine seqE ?_
  refine litE (m := 2) rfl ?_
  refine seqE ?_
  refine seqE ?_
  refine seqE ?_
  refine seqE ?_
  refine .inl (⟨_, _, c_laws_toSpanS p0.Spans (by exact hs), (FzAs.same _), ?_⟩)
  refine litE (m := 4) rfl ?_
  refine seqE ?_
  exact leafE hown hg
theorem id_laws_toTrail (x : Trail) : laws_toTrail x = x := by
  first | rfl | (simp only [laws_toTrail, id_laws_toSpanS]; done) | (simp only [laws_toTrail, id_laws_toSpanS]; rfl)
def laws_toTrailS_b1 (i1 : Nat) (s1 : (List Trail)) (a1 : Trail) : Step ((List Trail)) (List Trail) :=
  (.next (List.set s1 i1 (laws_toTrail a1)))
def laws_toTrailS (p0 : (List Trail)) : (List Trail) :=
  (Fin.get (fun s1 => s1) (loopL laws_toTrailS_b1 0 (List.replicate (p0).length (default : Trail)) p0))
theorem c_laws_toTrailS (p0 : (List Trail)) (hs : bdS Trail.bd 1048576 p0) : FnOk prog 99 [.one (.s false 4 (List.map (Trail.cells false) p0))] ⟨.one (.s true 4 (List.map (Trail.cells true) (laws_toTrailS p0))), [], [], false⟩ := by
  refine FnOk.intro (E := env) envOk wide func99 rfl (by kernel_rfl) rfl rfl ?_
  have hs1 := hs.1
  have hg := laws_toTrailS.eq_1 p0
  have hown : ∀ g : (List Trail), AV.Own (AV.one (.s true 4 (List.map (Trail.cells true) g))) := fun g => ownSl own_Trail _
  refine seqE ?_
  refine seqE ?_
  refine lenM fun hN1 => ?_
  refine And.intro (by exact ⟨rfl, by omega, by show ((48 : Nat) : Int) * _ ≤ _; omega, by omega⟩) (rowsE (Y := List.map (Trail.cells true) (List.replicate (p0).length (default : Trail))) (by rw [List.map_replicate]; rfl) ?_)
  refine litE (m := 0) rfl ?_
  refine seqE ?_
  refine seqE ?_
  refine loopLI (fun _ s => (s).length = (p0).length) hg (by simp) [0, 3] (fun x1 => [(4, .one (.v (.int .i64 ((x1.i : Nat) : Int))))]) (fun x1 => [.new ⟨4, false, List.map (Trail.cells true) x1.s, 0⟩]) [some 0] ?_ (fun x1 => ?_)
  · exact ⟨rfl, ⟨rfl, rfl, ⟨rfl, rfl, rfl, rfl, by (first | rfl | omega | (dsimp only; omega) | (simp; done) | (simp; omega) | (simp [LstSt.init, LstSt.step, LstInv.init, CntSt.init, CntSt.step, CntInv.init, WhlSt.init, WhlSt.step]; done) | (simp [LstSt.init, LstSt.step, LstInv.init, CntSt.init, CntSt.step, CntInv.init, WhlSt.init, WhlSt.step]; omega))⟩, trivial⟩, ⟨⟨rfl, rfl, rfl⟩, trivial⟩, trivial⟩
  have hI1 : (x1.s).length = (p0).length := by simpa using x1.hI
  refine seqE ?_
  refine seqE ?_
  refine lenM fun hN2 => ?_
  refine tstL (fun hi1 => ?_) (fun hi1 => ?_)
  · have hb1 := (x1.bdy hi1).trans (laws_toTrailS_b1.eq_1 ..)
    have hw1 := wrap_succ hi1 (by first | assumption | omega)
    refine seqE ?_
    refine idxAt hi1 ?_
    refine .inl (⟨_, _, c_laws_toTrail (p0[x1.i]'hi1) (by exact hs.get hi1), (FzAs.same _), ?_⟩)
    refine litE (m := 2) rfl ?_
    refine andE (by (first | omega | (simp (disch := omega) only [wrap_small, mid_eq, List.length_map]; omega) | (simp; done) | (simp; omega) | (simp at *; omega) | (simp at *; done) | (simp_all; done) | (simp_all; omega))) ?_
    refine rowsE (Y := List.map (Trail.cells true) (List.set x1.s x1.i (laws_toTrail (p0[x1.i]'hi1)))) (by exact setMapE (by simp) (fun a ha => by first | rfl | (simp only [ha, Option.getD_some]; rfl) | (obtain ⟨_, rfl⟩ := List.getElem?_eq_some_iff.1 ha; rfl) | (simp only [Pol.cells_eq]; rfl) | (simp only [ha, Option.getD_some, Pol.cells_eq]; rfl))) ?_
    exact x1.goE hi1 hb1 (by simpa using x1.hI) [some 0] ⟨rfl, ⟨(eqInt hw1), rfl, ⟨rfl, rfl, rfl, rfl, by (first | rfl | omega | (dsimp only; omega) | (simp; done) | (simp; omega) | (simp [LstSt.init, LstSt.step, LstInv.init, CntSt.init, CntSt.step, CntInv.init, WhlSt.init, WhlSt.step]; done) | (simp [LstSt.init, LstSt.step, LstInv.init, CntSt.init, CntSt.step, CntInv.init, WhlSt.init, WhlSt.step]; omega))⟩, trivial⟩, ⟨⟨rfl, rfl, rfl⟩, trivial⟩, trivial⟩
  have hg := finE hg (x1.fin hi1)
  refine seqE ?_
  exact leafE hown hg
theorem id_laws_toTrailS (x : (List Trail)) : laws_toTrailS x = x := setS_ok (b := laws_toTrailS_b1) id_laws_toTrail (fun _ _ _ => rfl) (fun _ => rfl) x
def laws_toStripe (p0 : Stripe) : Stripe :=
  (Stripe.mk p0.Held (laws_toTrailS p0.L))
theorem c_laws_toStripe (p0 : Stripe) (hs : Stripe.bd 1048576 p0) : FnOk prog 62 [.agg ((Stripe.cells false) p0)] ⟨.agg ((Stripe.cells true) (laws_toStripe p0)), [], [], false⟩ := by
  refine FnOk.intro (E := env) envOk wide func62 rfl (by kernel_rfl) rfl rfl ?_
  unfold Stripe.bd at hs
  have hg := laws_toStripe.eq_1 p0
  have hown : ∀ g : Stripe, AV.Own (AV.agg ((Stripe.cells true) g)) := fun g => own_Stripe _
  refine seqE ?_
  refine litE (m := 0) rfl ?_
  refine litE (m := 1) rfl ?_
  refine seqE ?_
  refine litE (m := 2) rfl ?_
  refine seqE ?_
  refine seqE ?_
  refine .inl (⟨_, _, c_laws_toTrailS p0.L (by exact hs), (FzAs.same _), ?_⟩)
  refine litE (m := 4) rfl ?_
  refine seqE ?_
  exact leafE hown hg
theorem id_laws_toStripe (x : Stripe) : laws_toStripe x = x := by
  first | rfl | (simp only [laws_toStripe, id_laws_toTrailS]; done) | (simp only [laws_toStripe, id_laws_toTrailS]; rfl)
def laws_toStripeS_b1 (i1 : Nat) (s1 : (List Stripe)) (a1 : Stripe) : Step ((List Stripe)) (List Stripe) :=
  (.next (List.set s1 i1 (laws_toStripe a1)))
def laws_toStripeS (p0 : (List Stripe)) : (List Stripe) :=
  (Fin.get (fun s1 => s1) (loopL laws_toStripeS_b1 0 (List.replicate (p0).length (default : Stripe)) p0))
theorem c_laws_toStripeS (p0 : (List Stripe)) (hs : bdS Stripe.bd 1048576 p0) : FnOk prog 23 [.one (.s false 2 (List.map (Stripe.cells false) p0))] ⟨.one (.s true 2 (List.map (Stripe.cells true) (laws_toStripeS p0))), [], [], false⟩ := by
  refine FnOk.intro (E := env) envOk wide func23 rfl (by kernel_rfl) rfl rfl ?_
  have hs1 := hs.1
  have hg := laws_toStripeS.eq_1 p0
  have hown : ∀ g : (List Stripe), AV.Own (AV.one (.s true 2 (List.map (Stripe.cells true) g))) := fun g => ownSl own_Stripe _
  refine seqE ?_
  refine seqE ?_
  refine lenM fun hN1 => ?_
  refine And.intro (by exact ⟨rfl, by omega, by show ((32 : Nat) : Int) * _ ≤ _; omega, by omega⟩) (rowsE (Y := List.map (Stripe.cells true) (List.replicate (p0).length (default : Stripe))) (by rw [List.map_replicate]; rfl) ?_)
  refine litE (m := 0) rfl ?_
  refine seqE ?_
  refine seqE ?_
  refine loopLI (fun _ s => (s).length = (p0).length) hg (by simp) [0, 3] (fun x1 => [(4, .one (.v (.int .i64 ((x1.i : Nat) : Int))))]) (fun x1 => [.new ⟨2, false, List.map (Stripe.cells true) x1.s, 0⟩]) [some 0] ?_ (fun x1 => ?_)
  · exact ⟨rfl, ⟨rfl, rfl, ⟨rfl, rfl, rfl, rfl, by (first | rfl | omega | (dsimp only; omega) | (simp; done) | (simp; omega) | (simp [LstSt.init, LstSt.step, LstInv.init, CntSt.init, CntSt.step, CntInv.init, WhlSt.init, WhlSt.step]; done) | (simp [LstSt.init, LstSt.step, LstInv.init, CntSt.init, CntSt.step, CntInv.init, WhlSt.init, WhlSt.step]; omega))⟩, trivial⟩, ⟨⟨rfl, rfl, rfl⟩, trivial⟩, trivial⟩
  have hI1 : (x1.s).length = (p0).length := by simpa using x1.hI
  refine seqE ?_
  refine seqE ?_
  refine lenM fun hN2 => ?_
  refine tstL (fun hi1 => ?_) (fun hi1 => ?_)
  · have hb1 := (x1.bdy hi1).trans (laws_toStripeS_b1.eq_1 ..)
    have hw1 := wrap_succ hi1 (by first | assumption | omega)
    refine seqE ?_
    refine idxAt hi1 ?_
    refine .inl (⟨_, _, c_laws_toStripe (p0[x1.i]'hi1) (by exact hs.get hi1), (FzAs.same _), ?_⟩)
    refine litE (m := 2) rfl ?_
    refine andE (by (first | omega | (simp (disch := omega) only [wrap_small, mid_eq, List.length_map]; omega) | (simp; done) | (simp; omega) | (simp at *; omega) | (simp at *; done) | (simp_all; done) | (simp_all; omega))) ?_
    refine rowsE (Y := List.map (Stripe.cells true) (List.set x1.s x1.i (laws_toStripe (p0[x1.i]'hi1)))) (by exact setMapE (by simp) (fun a ha => by first | rfl | (simp only [ha, Option.getD_some]; rfl) | (obtain ⟨_, rfl⟩ := List.getElem?_eq_some_iff.1 ha; rfl) | (simp only [Pol.cells_eq]; rfl) | (simp only [ha, Option.getD_some, Pol.cells_eq]; rfl))) ?_
    exact x1.goE hi1 hb1 (by simpa using x1.hI) [some 0] ⟨rfl, ⟨(eqInt hw1), rfl, ⟨rfl, rfl, rfl, rfl, by (first | rfl | omega | (dsimp only; omega) | (simp; done) | (simp; omega) | (simp [LstSt.init, LstSt.step, LstInv.init, CntSt.init, CntSt.step, CntInv.init, WhlSt.init, WhlSt.step]; done) | (simp [LstSt.init, LstSt.step, LstInv.init, CntSt.init, CntSt.step, CntInv.init, WhlSt.init, WhlSt.step]; omega))⟩, trivial⟩, ⟨⟨rfl, rfl, rfl⟩, trivial⟩, trivial⟩
  have hg := finE hg (x1.fin hi1)
  refine seqE ?_
  exact leafE hown hg
theorem id_laws_toStripeS (x : (List Stripe)) : laws_toStripeS x = x := setS_ok (b := laws_toStripeS_b1) id_laws_toStripe (fun _ _ _ => rfl) (fun _ => rfl) x
def laws_toBucket (p0 : Bucket) : Bucket :=
  p0
theorem c_laws_toBucket (p0 : Bucket) : FnOk prog 24 [.agg (Bucket.cells p0)] ⟨.agg (Bucket.cells (laws_toBucket p0)), [], [], false⟩ := by
  refine FnOk.intro (E := env) envOk wide func24 rfl (by kernel_rfl) rfl rfl ?_
  have hg := laws_toBucket.eq_1 p0
  have hown : ∀ g : Bucket, AV.Own (AV.agg (Bucket.cells g)) := fun g => own_Bucket _
  refine seqE ?_
  refine litE (m := 0) rfl ?_
  refine litE (m := 1) rfl ?_
  refine seqE ?_
  refine litE (m := 2) rfl ?_
  refine seqE ?_
  refine seqE ?_
  refine seqE ?_
  refine seqE ?_
  refine seqE ?_
  exact leafE hown hg
theorem id_laws_toBucket (x : Bucket) : laws_toBucket x = x := by
  first | rfl | (simp only [laws_toBucket]; done) | (simp only [laws_toBucket]; rfl)
def laws_toVerdict (p0 : Verdict) : Verdict :=
  p0
theorem c_laws_toVerdict (p0 : Verdict) : FnOk prog 63 [.agg (Verdict.cells p0)] ⟨.agg (Verdict.cells (laws_toVerdict p0)), [], [], false⟩ := by
  refine FnOk.intro (E := env) envOk wide func63 rfl (by kernel_rfl) rfl rfl ?_
  have hg := laws_toVerdict.eq_1 p0
  have hown : ∀ g : Verdict, AV.Own (AV.agg (Verdict.cells g)) := fun g => own_Verdict _
  refine seqE ?_
  refine litE (m := 0) rfl ?_
  refine litE (m := 1) rfl ?_
  refine seqE ?_
  refine litE (m := 2) rfl ?_
  refine seqE ?_
  refine seqE ?_
  refine seqE ?_
  refine seqE ?_
  exact leafE hown hg
theorem id_laws_toVerdict (x : Verdict) : laws_toVerdict x = x := by
  first | rfl | (simp only [laws_toVerdict]; done) | (simp only [laws_toVerdict]; rfl)
def laws_toVerdictS_b1 (i1 : Nat) (s1 : (List Verdict)) (a1 : Verdict) : Step ((List Verdict)) (List Verdict) :=
  (.next (List.set s1 i1 (laws_toVerdict a1)))
def laws_toVerdictS (p0 : (List Verdict)) : (List Verdict) :=
  (Fin.get (fun s1 => s1) (loopL laws_toVerdictS_b1 0 (List.replicate (p0).length (default : Verdict)) p0))
theorem c_laws_toVerdictS (p0 : (List Verdict)) (hs : bdS Verdict.bd 1048576 p0) : FnOk prog 25 [.one (.s false 3 (List.map Verdict.cells p0))] ⟨.one (.s true 3 (List.map Verdict.cells (laws_toVerdictS p0))), [], [], false⟩ := by
  refine FnOk.intro (E := env) envOk wide func25 rfl (by kernel_rfl) rfl rfl ?_
  have hs1 := hs.1
  have hg := laws_toVerdictS.eq_1 p0
  have hown : ∀ g : (List Verdict), AV.Own (AV.one (.s true 3 (List.map Verdict.cells g))) := fun g => ownSl own_Verdict _
  refine seqE ?_
  refine seqE ?_
  refine lenM fun hN1 => ?_
  refine And.intro (by exact ⟨rfl, by omega, by show ((24 : Nat) : Int) * _ ≤ _; omega, by omega⟩) (rowsE (Y := List.map Verdict.cells (List.replicate (p0).length (default : Verdict))) (by rw [List.map_replicate]; rfl) ?_)
  refine litE (m := 0) rfl ?_
  refine seqE ?_
  refine seqE ?_
  refine loopLI (fun _ s => (s).length = (p0).length) hg (by simp) [0, 3] (fun x1 => [(4, .one (.v (.int .i64 ((x1.i : Nat) : Int))))]) (fun x1 => [.new ⟨3, false, List.map Verdict.cells x1.s, 0⟩]) [some 0] ?_ (fun x1 => ?_)
  · exact ⟨rfl, ⟨rfl, rfl, ⟨rfl, rfl, rfl, rfl, by (first | rfl | omega | (dsimp only; omega) | (simp; done) | (simp; omega) | (simp [LstSt.init, LstSt.step, LstInv.init, CntSt.init, CntSt.step, CntInv.init, WhlSt.init, WhlSt.step]; done) | (simp [LstSt.init, LstSt.step, LstInv.init, CntSt.init, CntSt.step, CntInv.init, WhlSt.init, WhlSt.step]; omega))⟩, trivial⟩, ⟨⟨rfl, rfl, rfl⟩, trivial⟩, trivial⟩
  have hI1 : (x1.s).length = (p0).length := by simpa using x1.hI
  refine seqE ?_
  refine seqE ?_
  refine lenM fun hN2 => ?_
  refine tstL (fun hi1 => ?_) (fun hi1 => ?_)
  · have hb1 := (x1.bdy hi1).trans (laws_toVerdictS_b1.eq_1 ..)
    have hw1 := wrap_succ hi1 (by first | assumption | omega)
    refine seqE ?_
    refine idxAt hi1 ?_
    refine .inl (⟨_, _, c_laws_toVerdict (p0[x1.i]'hi1), (FzAs.same _), ?_⟩)
    refine litE (m := 2) rfl ?_
    refine andE (by (first | omega | (simp (disch := omega) only [wrap_small, mid_eq, List.length_map]; omega) | (simp; done) | (simp; omega) | (simp at *; omega) | (simp at *; done) | (simp_all; done) | (simp_all; omega))) ?_
    refine rowsE (Y := List.map Verdict.cells (List.set x1.s x1.i (laws_toVerdict (p0[x1.i]'hi1)))) (by exact setMapE (by simp) (fun a ha => by first | rfl | (simp only [ha, Option.getD_some]; rfl) | (obtain ⟨_, rfl⟩ := List.getElem?_eq_some_iff.1 ha; rfl) | (simp only [Pol.cells_eq]; rfl) | (simp only [ha, Option.getD_some, Pol.cells_eq]; rfl))) ?_
    exact x1.goE hi1 hb1 (by simpa using x1.hI) [some 0] ⟨rfl, ⟨(eqInt hw1), rfl, ⟨rfl, rfl, rfl, rfl, by (first | rfl | omega | (dsimp only; omega) | (simp; done) | (simp; omega) | (simp [LstSt.init, LstSt.step, LstInv.init, CntSt.init, CntSt.step, CntInv.init, WhlSt.init, WhlSt.step]; done) | (simp [LstSt.init, LstSt.step, LstInv.init, CntSt.init, CntSt.step, CntInv.init, WhlSt.init, WhlSt.step]; omega))⟩, trivial⟩, ⟨⟨rfl, rfl, rfl⟩, trivial⟩, trivial⟩
  have hg := finE hg (x1.fin hi1)
  refine seqE ?_
  exact leafE hown hg
theorem id_laws_toVerdictS (x : (List Verdict)) : laws_toVerdictS x = x := setS_ok (b := laws_toVerdictS_b1) id_laws_toVerdict (fun _ _ _ => rfl) (fun _ => rfl) x
def laws_toTimer (p0 : Timer) : Timer :=
  p0
theorem c_laws_toTimer (p0 : Timer) : FnOk prog 65 [.agg (Timer.cells p0)] ⟨.agg (Timer.cells (laws_toTimer p0)), [], [], false⟩ := by
  refine FnOk.intro (E := env) envOk wide func65 rfl (by kernel_rfl) rfl rfl ?_
  have hg := laws_toTimer.eq_1 p0
  have hown : ∀ g : Timer, AV.Own (AV.agg (Timer.cells g)) := fun g => own_Timer _
  refine seqE ?_
  refine litE (m := 0) rfl ?_
  refine litE (m := 1) rfl ?_
  refine seqE ?_
  refine litE (m := 2) rfl ?_
  refine seqE ?_
  refine seqE ?_
  refine seqE ?_
  refine seqE ?_
  exact leafE hown hg
theorem id_laws_toTimer (x : Timer) : laws_toTimer x = x := by
  first | rfl | (simp only [laws_toTimer]; done) | (simp only [laws_toTimer]; rfl)
def laws_toTimerS_b1 (i1 : Nat) (s1 : (List Timer)) (a1 : Timer) : Step ((List Timer)) (List Timer) :=
  (.next (List.set s1 i1 (laws_toTimer a1)))
def laws_toTimerS (p0 : (List Timer)) : (List Timer) :=
  (Fin.get (fun s1 => s1) (loopL laws_toTimerS_b1 0 (List.replicate (p0).length (default : Timer)) p0))
theorem c_laws_toTimerS (p0 : (List Timer)) (hs : bdS Timer.bd 1048576 p0) : FnOk prog 27 [.one (.s false 3 (List.map Timer.cells p0))] ⟨.one (.s true 3 (List.map Timer.cells (laws_toTimerS p0))), [], [], false⟩ := by
  refine FnOk.intro (E := env) envOk wide func27 rfl (by kernel_rfl) rfl rfl ?_
  have hs1 := hs.1
  have hg := laws_toTimerS.eq_1 p0
  have hown : ∀ g : (List Timer), AV.Own (AV.one (.s true 3 (List.map Timer.cells g))) := fun g => ownSl own_Timer _
  refine seqE ?_
  refine seqE ?_
  refine lenM fun hN1 => ?_
  refine And.intro (by exact ⟨rfl, by omega, by show ((24 : Nat) : Int) * _ ≤ _; omega, by omega⟩) (rowsE (Y := List.map Timer.cells (List.replicate (p0).length (default : Timer))) (by rw [List.map_replicate]; rfl) ?_)
  refine litE (m := 0) rfl ?_
  refine seqE ?_
  refine seqE ?_
  refine loopLI (fun _ s => (s).length = (p0).length) hg (by simp) [0, 3] (fun x1 => [(4, .one (.v (.int .i64 ((x1.i : Nat) : Int))))]) (fun x1 => [.new ⟨3, false, List.map Timer.cells x1.s, 0⟩]) [some 0] ?_ (fun x1 => ?_)
  · exact ⟨rfl, ⟨rfl, rfl, ⟨rfl, rfl, rfl, rfl, by (first | rfl | omega | (dsimp only; omega) | (simp; done) | (simp; omega) | (simp [LstSt.init, LstSt.step, LstInv.init, CntSt.init, CntSt.step, CntInv.init, WhlSt.init, WhlSt.step]; done) | (simp [LstSt.init, LstSt.step, LstInv.init, CntSt.init, CntSt.step, CntInv.init, WhlSt.init, WhlSt.step]; omega))⟩, trivial⟩, ⟨⟨rfl, rfl, rfl⟩, trivial⟩, trivial⟩
  have hI1 : (x1.s).length = (p0).length := by simpa using x1.hI
  refine seqE ?_
  refine seqE ?_
  refine lenM fun hN2 => ?_
  refine tstL (fun hi1 => ?_) (fun hi1 => ?_)
  · have hb1 := (x1.bdy hi1).trans (laws_toTimerS_b1.eq_1 ..)
    have hw1 := wrap_succ hi1 (by first | assumption | omega)
    refine seqE ?_
    refine idxAt hi1 ?_
    refine .inl (⟨_, _, c_laws_toTimer (p0[x1.i]'hi1), (FzAs.same _), ?_⟩)
    refine litE (m := 2) rfl ?_
    refine andE (by (first | omega | (simp (disch := omega) only [wrap_small, mid_eq, List.length_map]; omega) | (simp; done) | (simp; omega) | (simp at *; omega) | (simp at *; done) | (simp_all; done) | (simp_all; omega))) ?_
    refine rowsE (Y := List.map Timer.cells (List.set x1.s x1.i (laws_toTimer (p0[x1.i]'hi1)))) (by exact setMapE (by simp) (fun a ha => by first | rfl | (simp only [ha, Option.getD_some]; rfl) | (obtain ⟨_, rfl⟩ := List.getElem?_eq_some_iff.1 ha; rfl) | (simp only [Pol.cells_eq]; rfl) | (simp only [ha, Option.getD_some, Pol.cells_eq]; rfl))) ?_
    exact x1.goE hi1 hb1 (by simpa using x1.hI) [some 0] ⟨rfl, ⟨(eqInt hw1), rfl, ⟨rfl, rfl, rfl, rfl, by (first | rfl | omega | (dsimp only; omega) | (simp; done) | (simp; omega) | (simp [LstSt.init, LstSt.step, LstInv.init, CntSt.init, CntSt.step, CntInv.init, WhlSt.init, WhlSt.step]; done) | (simp [LstSt.init, LstSt.step, LstInv.init, CntSt.init, CntSt.step, CntInv.init, WhlSt.init, WhlSt.step]; omega))⟩, trivial⟩, ⟨⟨rfl, rfl, rfl⟩, trivial⟩, trivial⟩
  have hg := finE hg (x1.fin hi1)
  refine seqE ?_
  exact leafE hown hg
theorem id_laws_toTimerS (x : (List Timer)) : laws_toTimerS x = x := setS_ok (b := laws_toTimerS_b1) id_laws_toTimer (fun _ _ _ => rfl) (fun _ => rfl) x
def laws_toTimerSS_b1 (i1 : Nat) (s1 : (List (List Timer))) (a1 : (List Timer)) : Step ((List (List Timer))) (List (List Timer)) :=
  (.next (List.set s1 i1 (laws_toTimerS a1)))
def laws_toTimerSS (p0 : (List (List Timer))) : (List (List Timer)) :=
  (Fin.get (fun s1 => s1) (loopL laws_toTimerSS_b1 0 (List.replicate (p0).length ([] : List Timer)) p0))
theorem c_laws_toTimerSS (p0 : (List (List Timer))) (hs : bdS (bdS Timer.bd) 1048576 p0) : FnOk prog 64 [.one (.s false 1 (List.map (cSl false 3 Timer.cells) p0))] ⟨.one (.s true 1 (List.map (cSl true 3 Timer.cells) (laws_toTimerSS p0))), [], [], false⟩ := by
  refine FnOk.intro (E := env) envOk wide func64 rfl (by kernel_rfl) rfl rfl ?_
  have hs1 := hs.1
  have hg := laws_toTimerSS.eq_1 p0
  have hown : ∀ g : (List (List Timer)), AV.Own (AV.one (.s true 1 (List.map (cSl true 3 Timer.cells) g))) := fun g => ownSl (own_cSl own_Timer) _
  refine seqE ?_
  refine seqE ?_
  refine lenM fun hN1 => ?_
  refine And.intro (by exact ⟨rfl, by omega, by show ((24 : Nat) : Int) * _ ≤ _; omega, by omega⟩) (rowsE (Y := List.map (cSl true 3 Timer.cells) (List.replicate (p0).length ([] : List Timer))) (by rw [List.map_replicate]; rfl) ?_)
  refine litE (m := 0) rfl ?_
  refine seqE ?_
  refine seqE ?_
  refine loopLI (fun _ s => (s).length = (p0).length) hg (by simp) [0, 3] (fun x1 => [(4, .one (.v (.int .i64 ((x1.i : Nat) : Int))))]) (fun x1 => [.new ⟨1, false, List.map (cSl true 3 Timer.cells) x1.s, 0⟩]) [some 0] ?_ (fun x1 => ?_)
  · exact ⟨rfl, ⟨rfl, rfl, ⟨rfl, rfl, rfl, rfl, by (first | rfl | omega | (dsimp only; omega) | (simp; done) | (simp; omega) | (simp [LstSt.init, LstSt.step, LstInv.init, CntSt.init, CntSt.step, CntInv.init, WhlSt.init, WhlSt.step]; done) | (simp [LstSt.init, LstSt.step, LstInv.init, CntSt.init, CntSt.step, CntInv.init, WhlSt.init, WhlSt.step]; omega))⟩, trivial⟩, ⟨⟨rfl, rfl, rfl⟩, trivial⟩, trivial⟩
  have hI1 : (x1.s).length = (p0).length := by simpa using x1.hI
  refine seqE ?_
  refine seqE ?_
  refine lenM fun hN2 => ?_
  refine tstL (fun hi1 => ?_) (fun hi1 => ?_)
  · have hb1 := (x1.bdy hi1).trans (laws_toTimerSS_b1.eq_1 ..)
    have hw1 := wrap_succ hi1 (by first | assumption | omega)
    refine seqE ?_
    refine idxAt hi1 ?_
    refine .inl (⟨_, _, c_laws_toTimerS (p0[x1.i]'hi1) (by exact hs.get hi1), (FzAs.same _), ?_⟩)
    refine litE (m := 2) rfl ?_
    refine andE (by (first | omega | (simp (disch := omega) only [wrap_small, mid_eq, List.length_map]; omega) | (simp; done) | (simp; omega) | (simp at *; omega) | (simp at *; done) | (simp_all; done) | (simp_all; omega))) ?_
    refine rowsE (Y := List.map (cSl true 3 Timer.cells) (List.set x1.s x1.i (laws_toTimerS (p0[x1.i]'hi1)))) (by exact setMapE (by simp) (fun a ha => by first | rfl | (simp only [ha, Option.getD_some]; rfl) | (obtain ⟨_, rfl⟩ := List.getElem?_eq_some_iff.1 ha; rfl) | (simp only [Pol.cells_eq]; rfl) | (simp only [ha, Option.getD_some, Pol.cells_eq]; rfl))) ?_
    exact x1.goE hi1 hb1 (by simpa using x1.hI) [some 0] ⟨rfl, ⟨(eqInt hw1), rfl, ⟨rfl, rfl, rfl, rfl, by (first | rfl | omega | (dsimp only; omega) | (simp; done) | (simp; omega) | (simp [LstSt.init, LstSt.step, LstInv.init, CntSt.init, CntSt.step, CntInv.init, WhlSt.init, WhlSt.step]; done) | (simp [LstSt.init, LstSt.step, LstInv.init, CntSt.init, CntSt.step, CntInv.init, WhlSt.init, WhlSt.step]; omega))⟩, trivial⟩, ⟨⟨rfl, rfl, rfl⟩, trivial⟩, trivial⟩
  have hg := finE hg (x1.fin hi1)
  refine seqE ?_
  exact leafE hown hg
theorem id_laws_toTimerSS (x : (List (List Timer))) : laws_toTimerSS x = x := setS_ok (b := laws_toTimerSS_b1) id_laws_toTimerS (fun _ _ _ => rfl) (fun _ => rfl) x
def laws_toWheel (p0 : Wheel) : Wheel :=
  (Wheel.mk p0.Now (laws_toTimerSS p0.Near) (laws_toTimerSS p0.Far) (laws_toTimerS p0.Rest))
theorem c_laws_toWheel (p0 : Wheel) (hs : Wheel.bd 1048576 p0) : FnOk prog 26 [.agg ((Wheel.cells false) p0)] ⟨.agg ((Wheel.cells true) (laws_toWheel p0)), [], [], false⟩ := by
  refine FnOk.intro (E := env) envOk wide func26 rfl (by kernel_rfl) rfl rfl ?_
  unfold Wheel.bd at hs
  have hg := laws_toWheel.eq_1 p0
  have hown : ∀ g : Wheel, AV.Own (AV.agg ((Wheel.cells true) g)) := fun g => own_Wheel _
  refine seqE ?_
  refine litE (m := 0) rfl ?_
  refine litE (m := 1) rfl ?_
  refine seqE ?_
  refine litE (m := 2) rfl ?_
  refine seqE ?_
  refine seqE ?_
  refine .inl (⟨_, _, c_laws_toTimerSS p0.Near (by exact hs.1), (FzAs.same _), ?_⟩)
  refine litE (m := 4) rfl ?_
  refine seqE ?_
  refine .inl (⟨_, _, c_laws_toTimerSS p0.Far (by exact hs.2.1), (FzAs.same _), ?_⟩)
  refine litE (m := 6) rfl ?_
  refine seqE ?_
  refine .inl (⟨_, _, c_laws_toTimerS p0.Rest (by exact hs.2.2), (FzAs.same _), ?_⟩)
  refine litE (m := 8) rfl ?_
  refine seqE ?_
  exact leafE hown hg
theorem id_laws_toWheel (x : Wheel) : laws_toWheel x = x := by
  first | rfl | (simp only [laws_toWheel, id_laws_toTimerS, id_laws_toTimerSS]; done) | (simp only [laws_toWheel, id_laws_toTimerS, id_laws_toTimerSS]; rfl)
def laws_toItem (p0 : Item) : Item :=
  (Item.mk p0.Stamp (laws_toSpan p0.S))
theorem c_laws_toItem (p0 : Item) (hs : Item.bd 1048576 p0) : FnOk prog 66 [.agg ((Item.cells false) p0)] ⟨.agg ((Item.cells true) (laws_toItem p0)), [], [], false⟩ := by
  refine FnOk.intro (E := env) envOk wide func66 rfl (by kernel_rfl) rfl rfl ?_
  unfold Item.bd at hs
  have hg := laws_toItem.eq_1 p0
  have hown : ∀ g : Item, AV.Own (AV.agg ((Item.cells true) g)) := fun g => own_Item _
  refine seqE ?_
  refine litE (m := 0) rfl ?_
  refine litE (m := 1) rfl ?_
  refine seqE ?_
  refine litE (m := 2) rfl ?_
  refine seqE ?_
  refine seqE ?_
  refine .inl (⟨_, _, c_laws_toSpan p0.S (by exact hs), (FzAs.same _), ?_⟩)
  refine litE (m := 4) rfl ?_
  refine seqE ?_
  exact leafE hown hg
theorem id_laws_toItem (x : Item) : laws_toItem x = x := by
  first | rfl | (simp only [laws_toItem, id_laws_toSpan]; done) | (simp only [laws_toItem, id_laws_toSpan]; rfl)
def laws_toItemS_b1 (i1 : Nat) (s1 : (List Item)) (a1 : Item) : Step ((List Item)) (List Item) :=
  (.next (List.set s1 i1 (laws_toItem a1)))
def laws_toItemS (p0 : (List Item)) : (List Item) :=
  (Fin.get (fun s1 => s1) (loopL laws_toItemS_b1 0 (List.replicate (p0).length (default : Item)) p0))
theorem c_laws_toItemS (p0 : (List Item)) (hs : bdS Item.bd 1048576 p0) : FnOk prog 28 [.one (.s false 7 (List.map (Item.cells false) p0))] ⟨.one (.s true 7 (List.map (Item.cells true) (laws_toItemS p0))), [], [], false⟩ := by
  refine FnOk.intro (E := env) envOk wide func28 rfl (by kernel_rfl) rfl rfl ?_
  have hs1 := hs.1
  have hg := laws_toItemS.eq_1 p0
  have hown : ∀ g : (List Item), AV.Own (AV.one (.s true 7 (List.map (Item.cells true) g))) := fun g => ownSl own_Item _
  refine seqE ?_
  refine seqE ?_
  refine lenM fun hN1 => ?_
  refine And.intro (by exact ⟨rfl, by omega, by show ((72 : Nat) : Int) * _ ≤ _; omega, by omega⟩) (rowsE (Y := List.map (Item.cells true) (List.replicate (p0).length (default : Item))) (by rw [List.map_replicate]; rfl) ?_)
  refine litE (m := 0) rfl ?_
  refine seqE ?_
  refine seqE ?_
  refine loopLI (fun _ s => (s).length = (p0).length) hg (by simp) [0, 3] (fun x1 => [(4, .one (.v (.int .i64 ((x1.i : Nat) : Int))))]) (fun x1 => [.new ⟨7, false, List.map (Item.cells true) x1.s, 0⟩]) [some 0] ?_ (fun x1 => ?_)
  · exact ⟨rfl, ⟨rfl, rfl, ⟨rfl, rfl, rfl, rfl, by (first | rfl | omega | (dsimp only; omega) | (simp; done) | (simp; omega) | (simp [LstSt.init, LstSt.step, LstInv.init, CntSt.init, CntSt.step, CntInv.init, WhlSt.init, WhlSt.step]; done) | (simp [LstSt.init, LstSt.step, LstInv.init, CntSt.init, CntSt.step, CntInv.init, WhlSt.init, WhlSt.step]; omega))⟩, trivial⟩, ⟨⟨rfl, rfl, rfl⟩, trivial⟩, trivial⟩
  have hI1 : (x1.s).length = (p0).length := by simpa using x1.hI
  refine seqE ?_
  refine seqE ?_
  refine lenM fun hN2 => ?_
  refine tstL (fun hi1 => ?_) (fun hi1 => ?_)
  · have hb1 := (x1.bdy hi1).trans (laws_toItemS_b1.eq_1 ..)
    have hw1 := wrap_succ hi1 (by first | assumption | omega)
    refine seqE ?_
    refine idxAt hi1 ?_
    refine .inl (⟨_, _, c_laws_toItem (p0[x1.i]'hi1) (by exact hs.get hi1), (FzAs.same _), ?_⟩)
    refine litE (m := 2) rfl ?_
    refine andE (by (first | omega | (simp (disch := omega) only [wrap_small, mid_eq, List.length_map]; omega) | (simp; done) | (simp; omega) | (simp at *; omega) | (simp at *; done) | (simp_all; done) | (simp_all; omega))) ?_
    refine rowsE (Y := List.map (Item.cells true) (List.set x1.s x1.i (laws_toItem (p0[x1.i]'hi1)))) (by exact setMapE (by simp) (fun a ha => by first | rfl | (simp only [ha, Option.getD_some]; rfl) | (obtain ⟨_, rfl⟩ := List.getElem?_eq_some_iff.1 ha; rfl) | (simp only [Pol.cells_eq]; rfl) | (simp only [ha, Option.getD_some, Pol.cells_eq]; rfl))) ?_
    exact x1.goE hi1 hb1 (by simpa using x1.hI) [some 0] ⟨rfl, ⟨(eqInt hw1), rfl, ⟨rfl, rfl, rfl, rfl, by (first | rfl | omega | (dsimp only; omega) | (simp; done) | (simp; omega) | (simp [LstSt.init, LstSt.step, LstInv.init, CntSt.init, CntSt.step, CntInv.init, WhlSt.init, WhlSt.step]; done) | (simp [LstSt.init, LstSt.step, LstInv.init, CntSt.init, CntSt.step, CntInv.init, WhlSt.init, WhlSt.step]; omega))⟩, trivial⟩, ⟨⟨rfl, rfl, rfl⟩, trivial⟩, trivial⟩
  have hg := finE hg (x1.fin hi1)
  refine seqE ?_
  exact leafE hown hg
theorem id_laws_toItemS (x : (List Item)) : laws_toItemS x = x := setS_ok (b := laws_toItemS_b1) id_laws_toItem (fun _ _ _ => rfl) (fun _ => rfl) x
def laws_toTask (p0 : Task) : Task :=
  (Task.mk p0.Op p0.Pc (laws_toSpan p0.S) p0.Trace p0.Stamp (laws_toItemS p0.Hand) p0.H)
theorem c_laws_toTask (p0 : Task) (hs : Task.bd 1048576 p0) : FnOk prog 67 [.agg ((Task.cells false) p0)] ⟨.agg ((Task.cells true) (laws_toTask p0)), [], [], false⟩ := by
  refine FnOk.intro (E := env) envOk wide func67 rfl (by kernel_rfl) rfl rfl ?_
  unfold Task.bd at hs
  have hg := laws_toTask.eq_1 p0
  have hown : ∀ g : Task, AV.Own (AV.agg ((Task.cells true) g)) := fun g => own_Task _
  refine seqE ?_
  refine litE (m := 0) rfl ?_
  refine litE (m := 1) rfl ?_
  refine seqE ?_
  refine litE (m := 2) rfl ?_
  refine seqE ?_
  refine seqE ?_
  refine seqE ?_
  refine .inl (⟨_, _, c_laws_toSpan p0.S (by exact hs.1), (FzAs.same _), ?_⟩)
  refine litE (m := 4) rfl ?_
  refine seqE ?_
  refine seqE ?_
  refine seqE ?_
  refine .inl (⟨_, _, c_laws_toItemS p0.Hand (by exact hs.2), (FzAs.same _), ?_⟩)
  refine litE (m := 6) rfl ?_
  refine seqE ?_
  refine seqE ?_
  exact leafE hown hg
theorem id_laws_toTask (x : Task) : laws_toTask x = x := by
  first | rfl | (simp only [laws_toTask, id_laws_toSpan, id_laws_toItemS]; done) | (simp only [laws_toTask, id_laws_toSpan, id_laws_toItemS]; rfl)
def laws_toTaskS_b1 (i1 : Nat) (s1 : (List Task)) (a1 : Task) : Step ((List Task)) (List Task) :=
  (.next (List.set s1 i1 (laws_toTask a1)))
def laws_toTaskS (p0 : (List Task)) : (List Task) :=
  (Fin.get (fun s1 => s1) (loopL laws_toTaskS_b1 0 (List.replicate (p0).length (default : Task)) p0))
theorem c_laws_toTaskS (p0 : (List Task)) (hs : bdS Task.bd 1048576 p0) : FnOk prog 29 [.one (.s false 12 (List.map (Task.cells false) p0))] ⟨.one (.s true 12 (List.map (Task.cells true) (laws_toTaskS p0))), [], [], false⟩ := by
  refine FnOk.intro (E := env) envOk wide func29 rfl (by kernel_rfl) rfl rfl ?_
  have hs1 := hs.1
  have hg := laws_toTaskS.eq_1 p0
  have hown : ∀ g : (List Task), AV.Own (AV.one (.s true 12 (List.map (Task.cells true) g))) := fun g => ownSl own_Task _
  refine seqE ?_
  refine seqE ?_
  refine lenM fun hN1 => ?_
  refine And.intro (by exact ⟨rfl, by omega, by show ((128 : Nat) : Int) * _ ≤ _; omega, by omega⟩) (rowsE (Y := List.map (Task.cells true) (List.replicate (p0).length (default : Task))) (by rw [List.map_replicate]; rfl) ?_)
  refine litE (m := 0) rfl ?_
  refine seqE ?_
  refine seqE ?_
  refine loopLI (fun _ s => (s).length = (p0).length) hg (by simp) [0, 3] (fun x1 => [(4, .one (.v (.int .i64 ((x1.i : Nat) : Int))))]) (fun x1 => [.new ⟨12, false, List.map (Task.cells true) x1.s, 0⟩]) [some 0] ?_ (fun x1 => ?_)
  · exact ⟨rfl, ⟨rfl, rfl, ⟨rfl, rfl, rfl, rfl, by (first | rfl | omega | (dsimp only; omega) | (simp; done) | (simp; omega) | (simp [LstSt.init, LstSt.step, LstInv.init, CntSt.init, CntSt.step, CntInv.init, WhlSt.init, WhlSt.step]; done) | (simp [LstSt.init, LstSt.step, LstInv.init, CntSt.init, CntSt.step, CntInv.init, WhlSt.init, WhlSt.step]; omega))⟩, trivial⟩, ⟨⟨rfl, rfl, rfl⟩, trivial⟩, trivial⟩
  have hI1 : (x1.s).length = (p0).length := by simpa using x1.hI
  refine seqE ?_
  refine seqE ?_
  refine lenM fun hN2 => ?_
  refine tstL (fun hi1 => ?_) (fun hi1 => ?_)
  · have hb1 := (x1.bdy hi1).trans (laws_toTaskS_b1.eq_1 ..)
    have hw1 := wrap_succ hi1 (by first | assumption | omega)
    refine seqE ?_
    refine idxAt hi1 ?_
    refine .inl (⟨_, _, c_laws_toTask (p0[x1.i]'hi1) (by exact hs.get hi1), (FzAs.same _), ?_⟩)
    refine litE (m := 2) rfl ?_
    refine andE (by (first | omega | (simp (disch := omega) only [wrap_small, mid_eq, List.length_map]; omega) | (simp; done) | (simp; omega) | (simp at *; omega) | (simp at *; done) | (simp_all; done) | (simp_all; omega))) ?_
    refine rowsE (Y := List.map (Task.cells true) (List.set x1.s x1.i (laws_toTask (p0[x1.i]'hi1)))) (by exact setMapE (by simp) (fun a ha => by first | rfl | (simp only [ha, Option.getD_some]; rfl) | (obtain ⟨_, rfl⟩ := List.getElem?_eq_some_iff.1 ha; rfl) | (simp only [Pol.cells_eq]; rfl) | (simp only [ha, Option.getD_some, Pol.cells_eq]; rfl))) ?_
    exact x1.goE hi1 hb1 (by simpa using x1.hI) [some 0] ⟨rfl, ⟨(eqInt hw1), rfl, ⟨rfl, rfl, rfl, rfl, by (first | rfl | omega | (dsimp only; omega) | (simp; done) | (simp; omega) | (simp [LstSt.init, LstSt.step, LstInv.init, CntSt.init, CntSt.step, CntInv.init, WhlSt.init, WhlSt.step]; done) | (simp [LstSt.init, LstSt.step, LstInv.init, CntSt.init, CntSt.step, CntInv.init, WhlSt.init, WhlSt.step]; omega))⟩, trivial⟩, ⟨⟨rfl, rfl, rfl⟩, trivial⟩, trivial⟩
  have hg := finE hg (x1.fin hi1)
  refine seqE ?_
  exact leafE hown hg
theorem id_laws_toTaskS (x : (List Task)) : laws_toTaskS x = x := setS_ok (b := laws_toTaskS_b1) id_laws_toTask (fun _ _ _ => rfl) (fun _ => rfl) x
def laws_toDeed (p0 : Deed) : Deed :=
  (Deed.mk p0.Op p0.Task (laws_toSpan p0.S) p0.Trace p0.Stamp p0.Code p0.Keep p0.Void p0.Took p0.N p0.Forgot p0.Now p0.Inv p0.Lin p0.Res)
theorem c_laws_toDeed (p0 : Deed) (hs : Deed.bd 1048576 p0) : FnOk prog 68 [.agg ((Deed.cells false) p0)] ⟨.agg ((Deed.cells true) (laws_toDeed p0)), [], [], false⟩ := by
  refine FnOk.intro (E := env) envOk wide func68 rfl (by kernel_rfl) rfl rfl ?_
  unfold Deed.bd at hs
  have hg := laws_toDeed.eq_1 p0
  have hown : ∀ g : Deed, AV.Own (AV.agg ((Deed.cells true) g)) := fun g => own_Deed _
  refine seqE ?_
  refine litE (m := 0) rfl ?_
  refine litE (m := 1) rfl ?_
  refine seqE ?_
  refine litE (m := 2) rfl ?_
  refine seqE ?_
  refine seqE ?_
  refine seqE ?_
  refine .inl (⟨_, _, c_laws_toSpan p0.S (by exact hs), (FzAs.same _), ?_⟩)
  refine litE (m := 4) rfl ?_
  refine seqE ?_
  refine seqE ?_
  refine seqE ?_
  refine seqE ?_
  refine seqE ?_
  refine seqE ?_
  refine seqE ?_
  refine seqE ?_
  refine seqE ?_
  refine seqE ?_
  refine seqE ?_
  refine seqE ?_
  refine seqE ?_
  exact leafE hown hg
theorem id_laws_toDeed (x : Deed) : laws_toDeed x = x := by
  first | rfl | (simp only [laws_toDeed, id_laws_toSpan]; done) | (simp only [laws_toDeed, id_laws_toSpan]; rfl)
def laws_toDeedS_b1 (i1 : Nat) (s1 : (List Deed)) (a1 : Deed) : Step ((List Deed)) (List Deed) :=
  (.next (List.set s1 i1 (laws_toDeed a1)))
def laws_toDeedS (p0 : (List Deed)) : (List Deed) :=
  (Fin.get (fun s1 => s1) (loopL laws_toDeedS_b1 0 (List.replicate (p0).length (default : Deed)) p0))
theorem c_laws_toDeedS (p0 : (List Deed)) (hs : bdS Deed.bd 1048576 p0) : FnOk prog 30 [.one (.s false 20 (List.map (Deed.cells false) p0))] ⟨.one (.s true 20 (List.map (Deed.cells true) (laws_toDeedS p0))), [], [], false⟩ := by
  refine FnOk.intro (E := env) envOk wide func30 rfl (by kernel_rfl) rfl rfl ?_
  have hs1 := hs.1
  have hg := laws_toDeedS.eq_1 p0
  have hown : ∀ g : (List Deed), AV.Own (AV.one (.s true 20 (List.map (Deed.cells true) g))) := fun g => ownSl own_Deed _
  refine seqE ?_
  refine seqE ?_
  refine lenM fun hN1 => ?_
  refine And.intro (by exact ⟨rfl, by omega, by show ((168 : Nat) : Int) * _ ≤ _; omega, by omega⟩) (rowsE (Y := List.map (Deed.cells true) (List.replicate (p0).length (default : Deed))) (by rw [List.map_replicate]; rfl) ?_)
  refine litE (m := 0) rfl ?_
  refine seqE ?_
  refine seqE ?_
  refine loopLI (fun _ s => (s).length = (p0).length) hg (by simp) [0, 3] (fun x1 => [(4, .one (.v (.int .i64 ((x1.i : Nat) : Int))))]) (fun x1 => [.new ⟨20, false, List.map (Deed.cells true) x1.s, 0⟩]) [some 0] ?_ (fun x1 => ?_)
  · exact ⟨rfl, ⟨rfl, rfl, ⟨rfl, rfl, rfl, rfl, by (first | rfl | omega | (dsimp only; omega) | (simp; done) | (simp; omega) | (simp [LstSt.init, LstSt.step, LstInv.init, CntSt.init, CntSt.step, CntInv.init, WhlSt.init, WhlSt.step]; done) | (simp [LstSt.init, LstSt.step, LstInv.init, CntSt.init, CntSt.step, CntInv.init, WhlSt.init, WhlSt.step]; omega))⟩, trivial⟩, ⟨⟨rfl, rfl, rfl⟩, trivial⟩, trivial⟩
  have hI1 : (x1.s).length = (p0).length := by simpa using x1.hI
  refine seqE ?_
  refine seqE ?_
  refine lenM fun hN2 => ?_
  refine tstL (fun hi1 => ?_) (fun hi1 => ?_)
  · have hb1 := (x1.bdy hi1).trans (laws_toDeedS_b1.eq_1 ..)
    have hw1 := wrap_succ hi1 (by first | assumption | omega)
    refine seqE ?_
    refine idxAt hi1 ?_
    refine .inl (⟨_, _, c_laws_toDeed (p0[x1.i]'hi1) (by exact hs.get hi1), (FzAs.same _), ?_⟩)
    refine litE (m := 2) rfl ?_
    refine andE (by (first | omega | (simp (disch := omega) only [wrap_small, mid_eq, List.length_map]; omega) | (simp; done) | (simp; omega) | (simp at *; omega) | (simp at *; done) | (simp_all; done) | (simp_all; omega))) ?_
    refine rowsE (Y := List.map (Deed.cells true) (List.set x1.s x1.i (laws_toDeed (p0[x1.i]'hi1)))) (by exact setMapE (by simp) (fun a ha => by first | rfl | (simp only [ha, Option.getD_some]; rfl) | (obtain ⟨_, rfl⟩ := List.getElem?_eq_some_iff.1 ha; rfl) | (simp only [Pol.cells_eq]; rfl) | (simp only [ha, Option.getD_some, Pol.cells_eq]; rfl))) ?_
    exact x1.goE hi1 hb1 (by simpa using x1.hI) [some 0] ⟨rfl, ⟨(eqInt hw1), rfl, ⟨rfl, rfl, rfl, rfl, by (first | rfl | omega | (dsimp only; omega) | (simp; done) | (simp; omega) | (simp [LstSt.init, LstSt.step, LstInv.init, CntSt.init, CntSt.step, CntInv.init, WhlSt.init, WhlSt.step]; done) | (simp [LstSt.init, LstSt.step, LstInv.init, CntSt.init, CntSt.step, CntInv.init, WhlSt.init, WhlSt.step]; omega))⟩, trivial⟩, ⟨⟨rfl, rfl, rfl⟩, trivial⟩, trivial⟩
  have hg := finE hg (x1.fin hi1)
  refine seqE ?_
  exact leafE hown hg
theorem id_laws_toDeedS (x : (List Deed)) : laws_toDeedS x = x := setS_ok (b := laws_toDeedS_b1) id_laws_toDeed (fun _ _ _ => rfl) (fun _ => rfl) x
def laws_toWorld (p0 : World) : World :=
  (World.mk (laws_toConf p0.C) p0.Time p0.Shut (laws_toStripeS p0.St) p0.RuleHeld (laws_toBucket p0.B) (laws_toVerdictS p0.Cache) p0.Used (laws_toWheel p0.W) (laws_toTimerS p0.Due) (laws_toItemS p0.Queue) (laws_toItemS p0.Out) (laws_toTaskS p0.Tasks) (laws_toDeedS p0.Deeds) p0.Next)
theorem c_laws_toWorld (p0 : World) (hs : World.bd 1048576 p0) : FnOk prog 7 [.agg ((World.cells false) p0)] ⟨.agg ((World.cells true) (laws_toWorld p0)), [], [], false⟩ := by
  refine FnOk.intro (E := env) envOk wide func7 rfl (by kernel_rfl) rfl rfl ?_
  unfold World.bd at hs
  have hg := laws_toWorld.eq_1 p0
  have hown : ∀ g : World, AV.Own (AV.agg ((World.cells true) g)) := fun g => own_World _
  refine seqE ?_
  refine litE (m := 0) rfl ?_
  refine litE (m := 1) rfl ?_
  refine seqE ?_
  refine litE (m := 2) rfl ?_
  refine seqE ?_
  refine .inl (⟨_, _, c_laws_toConf p0.C (by exact hs.1), (FzAs.same _), ?_⟩)
  refine litE (m := 4) rfl ?_
  refine seqE ?_
  refine seqE ?_
  refine seqE ?_
  refine .inl (⟨_, _, c_laws_toStripeS p0.St (by exact hs.2.1), (FzAs.same _), ?_⟩)
  refine litE (m := 6) rfl ?_
  refine seqE ?_
  refine seqE ?_
  refine .inl (⟨_, _, c_laws_toBucket p0.B, (FzAs.same _), ?_⟩)
  refine litE (m := 8) rfl ?_
  refine seqE ?_
  refine .inl (⟨_, _, c_laws_toVerdictS p0.Cache (by exact hs.2.2.1), (FzAs.same _), ?_⟩)
  refine litE (m := 9) rfl ?_
  refine seqE ?_
  refine seqE ?_
  refine .inl (⟨_, _, c_laws_toWheel p0.W (by exact hs.2.2.2.1), (FzAs.same _), ?_⟩)
  refine litE (m := 11) rfl ?_
  refine seqE ?_
  refine .inl (⟨_, _, c_laws_toTimerS p0.Due (by exact hs.2.2.2.2.1), (FzAs.same _), ?_⟩)
  refine litE (m := 15) rfl ?_
  refine seqE ?_
  refine .inl (⟨_, _, c_laws_toItemS p0.Queue (by exact hs.2.2.2.2.2.1), (FzAs.same _), ?_⟩)
  refine litE (m := 17) rfl ?_
  refine seqE ?_
  refine .inl (⟨_, _, c_laws_toItemS p0.Out (by exact hs.2.2.2.2.2.2.1), (FzAs.same _), ?_⟩)
  refine litE (m := 19) rfl ?_
  refine seqE ?_
  refine .inl (⟨_, _, c_laws_toTaskS p0.Tasks (by exact hs.2.2.2.2.2.2.2.1), (FzAs.same _), ?_⟩)
  refine litE (m := 21) rfl ?_
  refine seqE ?_
  refine .inl (⟨_, _, c_laws_toDeedS p0.Deeds (by exact hs.2.2.2.2.2.2.2.2), (FzAs.same _), ?_⟩)
  refine litE (m := 23) rfl ?_
  refine seqE ?_
  refine seqE ?_
  exact leafE hown hg
theorem id_laws_toWorld (x : World) : laws_toWorld x = x := by
  first | rfl | (simp only [laws_toWorld, id_laws_toConf, id_laws_toStripeS, id_laws_toBucket, id_laws_toVerdictS, id_laws_toTimerS, id_laws_toWheel, id_laws_toItemS, id_laws_toTaskS, id_laws_toDeedS]; done) | (simp only [laws_toWorld, id_laws_toConf, id_laws_toStripeS, id_laws_toBucket, id_laws_toVerdictS, id_laws_toTimerS, id_laws_toWheel, id_laws_toItemS, id_laws_toTaskS, id_laws_toDeedS]; rfl)
def spec_l1In (p0 : Int) (p1 : Int) (p2 : Int) : Bool :=
  (bif (decide (p0 ≥ p1)) then (decide (p0 ≤ p2)) else false)
theorem c_spec_l1In (p0 : Int) (p1 : Int) (p2 : Int) : FnOk prog 85 [.one (.v (.int .i64 p0)), .one (.v (.int .i64 p1)), .one (.v (.int .i64 p2))] ⟨.one (.v (.bool (spec_l1In p0 p1 p2))), [], [], false⟩ := by
  refine FnOk.intro (E := env) envOk wide func85 rfl (by kernel_rfl) rfl rfl ?_
  have hg := spec_l1In.eq_1 p0 p1 p2
  have hown : ∀ g : Bool, AV.Own (AV.one (.v (.bool g))) := fun g => .v _
  refine seqE ?_
  refine seqE ?_
  exact brD hg (fun hg h1 => leafE hown hg) (fun hg h1 => leafE hown hg)
def spec_PolCount_b1 (r0 : (Pol → Int)) (i1 : Nat) (s1 : Int) (a1 : Pol) : Step (Int) Int :=
  (.next (IntKind.i64.wrap (s1 + (r0 a1))))
def spec_PolCountR : Nat → Pol → Int
  | 0, _ => default
  | n + 1, p0 => (Fin.get (fun s1 => s1) (loopL (spec_PolCount_b1 (spec_PolCountR n)) 0 1 p0.L))
theorem cR_spec_PolCount : ∀ (n : Nat) (p0 : Pol), Pol.dep p0 < n → FnOk prog 126 [.agg (Pol.opn false p0)] ⟨.one (.v (.int .i64 (spec_PolCountR n p0))), [], [], false⟩ := by
  intro n
  induction n with
  | zero => intro p0 hd0; omega
  | succ n ih =>
    intro p0 hd0
    refine FnOk.intro (E := env) envOk wide func126 rfl (by kernel_rfl) rfl rfl ?_
    have hg : spec_PolCountR (n + 1) p0 = _ := spec_PolCountR.eq_2 ..
    have hown : ∀ g : Int, AV.Own (AV.one (.v (.int .i64 g))) := fun g => .v _
    refine seqE ?_
    refine litE (m := 0) rfl ?_
    refine seqE ?_
    refine seqE ?_
    refine seqE ?_
    refine loopLE hg [1] (fun x1 => [(3, .one (.v (.int .i64 x1.s))), (4, .one (.v (.int .i64 ((x1.i : Nat) : Int))))]) (fun x1 => [.keep 0]) [some 0] ?_ (fun x1 => ?_)
    · exact ⟨rfl, ⟨rfl, rfl, ⟨rfl, rfl, rfl, rfl⟩, trivial⟩, ⟨⟨rfl, rfl, ⟨rfl, rfl, rfl, rfl, rfl, trivial⟩⟩, trivial⟩, trivial⟩
    refine seqE ?_
    refine seqE ?_
    refine lenM fun hN1 => ?_
    refine tstL (fun hi1 => ?_) (fun hi1 => ?_)
    · have hb1 := (x1.bdy hi1).trans (spec_PolCount_b1.eq_1 ..)
      have hw1 := wrap_succ hi1 (by first | assumption | omega)
      refine seqE ?_
      refine idxAtR (Pol.cells_eq false) hi1 ?_
      refine .inl (⟨_, _, ih (p0.L[x1.i]'hi1) (by first | exact hm0 _ (List.getElem_mem _) | exact hm0 _ (List.mem_of_getElem? (by assumption)) | exact Nat.lt_of_lt_of_le (Pol.dep_lt (List.getElem_mem _)) (Nat.le_of_lt_succ hd0) | exact Nat.lt_of_lt_of_le (Pol.dep_lt (List.mem_of_getElem? (by assumption))) (Nat.le_of_lt_succ hd0)), (FzAs.same _), ?_⟩)
      refine litE (m := 2) rfl ?_
      exact x1.goE hi1 hb1 [some 0] ⟨rfl, ⟨rfl, (eqInt hw1), ⟨rfl, rfl, rfl, rfl⟩, trivial⟩, ⟨⟨rfl, rfl, ⟨rfl, rfl, rfl, rfl, rfl, trivial⟩⟩, trivial⟩, trivial⟩
    have hg := finE hg (x1.fin hi1)
    refine seqE ?_
    exact leafE hown hg
def spec_PolCount (p0 : Pol) : Int := spec_PolCountR (Pol.dep p0 + 1) p0
theorem c_spec_PolCount (p0 : Pol) : FnOk prog 126 [.agg (Pol.opn false p0)] ⟨.one (.v (.int .i64 (spec_PolCount p0))), [], [], false⟩ := cR_spec_PolCount _ p0 (Nat.lt_succ_self _)
def spec_NameOk_b1 (p0 : ByteArray) (i1 : Nat) (s1 : Unit) : Step (Unit) Bool :=
  (bif (decide ((((p0).data.getD i1 0).toNat : Int) < 97)) then (.done false) else (bif (decide ((((p0).data.getD i1 0).toNat : Int) > 122)) then (.done false) else (.next ())))
def spec_NameOk (p0 : ByteArray) : Bool :=
  (Fin.get (fun s1 => (spec_l1In (((p0).size : Nat) : Int) 1 8)) (loopC (spec_NameOk_b1 p0) 0 () (p0).size))
theorem c_spec_NameOk (p0 : ByteArray) : FnOk prog 181 [.one (.v (.string p0))] ⟨.one (.v (.bool (spec_NameOk p0))), [], [], false⟩ := by
  refine FnOk.intro (E := env) envOk wide func181 rfl (by kernel_rfl) rfl rfl ?_
  have hg := spec_NameOk.eq_1 p0
  have hown : ∀ g : Bool, AV.Own (AV.one (.v (.bool g))) := fun g => .v _
  refine seqE ?_
  refine seqE ?_
  refine seqE ?_
  refine loopCE hg [0] (fun x1 => [(3, .one (.v (.int .i64 ((x1.i : Nat) : Int))))]) (fun x1 => []) [] ?_ (fun x1 => ?_)
  · exact ⟨rfl, ⟨rfl, rfl, trivial⟩, trivial, trivial⟩
  refine seqE ?_
  refine seqE ?_
  refine lenS fun hN1 => ?_
  refine tstL (fun hi1 => ?_) (fun hi1 => ?_)
  · have hb1 := (x1.bdy hi1).trans (spec_NameOk_b1.eq_1 ..)
    have hw1 := wrap_succ hi1 (by first | assumption | omega)
    refine seqE ?_
    refine seqE ?_
    refine andE (by (first | omega | (simp (disch := omega) only [wrap_small, mid_eq, List.length_map]; omega) | (simp; done) | (simp; omega) | (simp at *; omega) | (simp at *; done) | (simp_all; done) | (simp_all; omega))) ?_
    refine brDF hb1 (fun hb1 h2 => ?_) (fun hb1 h2 => ?_)
    · refine andE (by (first | omega | (simp (disch := omega) only [wrap_small, mid_eq, List.length_map]; omega) | (simp; done) | (simp; omega) | (simp at *; omega) | (simp at *; done) | (simp_all; done) | (simp_all; omega))) ?_
      refine brD hb1 (fun hb1 h3 => ?_) (fun hb1 h3 => x1.goE hi1 hb1 [] ⟨rfl, ⟨(eqInt hw1), rfl, trivial⟩, trivial, trivial⟩)
      refine seqE ?_
      have hg := donE hg (x1.outD hi1 hb1)
      exact leafE hown hg
    · refine seqE ?_
      have hg := donE hg (x1.outD hi1 hb1)
      exact leafE hown hg
  have hg := finE hg (x1.fin hi1)
  refine seqE ?_
  refine lenS fun hN4 => ?_
  refine .inl (⟨_, _, c_spec_l1In (((p0).size : Nat) : Int) 1 8, (FzAs.same _), ?_⟩)
  refine litE (m := 1) rfl ?_
  exact leafE hown hg
def spec_PlainOk_b1 (p0 : ByteArray) (i1 : Nat) (s1 : Unit) : Step (Unit) Bool :=
  (bif (decide ((((p0).data.getD i1 0).toNat : Int) < 32)) then (.done false) else (bif (decide ((((p0).data.getD i1 0).toNat : Int) > 126)) then (.done false) else (bif ((((p0).data.getD i1 0).toNat : Int) == 34) then (.done false) else (.next ()))))
def spec_PlainOk (p0 : ByteArray) : Bool :=
  (Fin.get (fun s1 => (decide ((((p0).size : Nat) : Int) ≤ 20))) (loopC (spec_PlainOk_b1 p0) 0 () (p0).size))
theorem c_spec_PlainOk (p0 : ByteArray) : FnOk prog 182 [.one (.v (.string p0))] ⟨.one (.v (.bool (spec_PlainOk p0))), [], [], false⟩ := by
  refine FnOk.intro (E := env) envOk wide func182 rfl (by kernel_rfl) rfl rfl ?_
  have hg := spec_PlainOk.eq_1 p0
  have hown : ∀ g : Bool, AV.Own (AV.one (.v (.bool g))) := fun g => .v _
  refine seqE ?_
  refine seqE ?_
  refine seqE ?_
  refine loopCE hg [0] (fun x1 => [(3, .one (.v (.int .i64 ((x1.i : Nat) : Int))))]) (fun x1 => []) [] ?_ (fun x1 => ?_)
  · exact ⟨rfl, ⟨rfl, rfl, trivial⟩, trivial, trivial⟩
  refine seqE ?_
  refine seqE ?_
  refine lenS fun hN1 => ?_
  refine tstL (fun hi1 => ?_) (fun hi1 => ?_)
  · have hb1 := (x1.bdy hi1).trans (spec_PlainOk_b1.eq_1 ..)
    have hw1 := wrap_succ hi1 (by first | assumption | omega)
    refine seqE ?_
    refine seqE ?_
    refine andE (by (first | omega | (simp (disch := omega) only [wrap_small, mid_eq, List.length_map]; omega) | (simp; done) | (simp; omega) | (simp at *; omega) | (simp at *; done) | (simp_all; done) | (simp_all; omega))) ?_
    refine brDF hb1 (fun hb1 h2 => ?_) (fun hb1 h2 => ?_)
    · refine andE (by (first | omega | (simp (disch := omega) only [wrap_small, mid_eq, List.length_map]; omega) | (simp; done) | (simp; omega) | (simp at *; omega) | (simp at *; done) | (simp_all; done) | (simp_all; omega))) ?_
      refine brDF hb1 (fun hb1 h3 => ?_) (fun hb1 h3 => ?_)
      · refine andE (by (first | omega | (simp (disch := omega) only [wrap_small, mid_eq, List.length_map]; omega) | (simp; done) | (simp; omega) | (simp at *; omega) | (simp at *; done) | (simp_all; done) | (simp_all; omega))) ?_
        refine brQ hb1 (fun hb1 h4 => ?_) (fun hb1 h4 => x1.goE hi1 hb1 [] ⟨rfl, ⟨(eqInt hw1), rfl, trivial⟩, trivial, trivial⟩)
        refine seqE ?_
        have hg := donE hg (x1.outD hi1 hb1)
        exact leafE hown hg
      · refine seqE ?_
        have hg := donE hg (x1.outD hi1 hb1)
        exact leafE hown hg
    · refine seqE ?_
      have hg := donE hg (x1.outD hi1 hb1)
      exact leafE hown hg
  have hg := finE hg (x1.fin hi1)
  refine seqE ?_
  refine lenS fun hN5 => ?_
  exact leafE hown hg
def spec_l5One_j1 (p0 : Pol) : Step (Bool) Bool :=
  (bif (p0.Kind == 1) then (.next (p0.Kind == 1)) else (bif (p0.Kind == 2) then (.next (p0.Kind == 2)) else (.next (p0.Kind == 6))))
def spec_l5One_j2 (p0 : Pol) : Step (Bool) Bool :=
  (bif (p0.Kind == 7) then (.next (p0.Kind == 7)) else (.next (p0.Kind == 8)))
def spec_l5One (p0 : Pol) : Bool :=
  (Step.get (fun s1 => (bif s1 then (bif (p0.N == 0) then (bif (decide (p0.Key = (ByteArray.mk #[]))) then (bif (decide (p0.Text = (ByteArray.mk #[]))) then ((((p0.L).length : Nat) : Int) == 0) else false) else false) else false) else (bif (p0.Kind == 3) then (bif (spec_l1In p0.N 0 2147483647) then (bif (decide (p0.Key = (ByteArray.mk #[]))) then (bif (decide (p0.Text = (ByteArray.mk #[]))) then ((((p0.L).length : Nat) : Int) == 0) else false) else false) else false) else (bif (p0.Kind == 4) then (bif (p0.N == 0) then (bif (spec_NameOk p0.Key) then (bif (spec_PlainOk p0.Text) then ((((p0.L).length : Nat) : Int) == 0) else false) else false) else false) else (bif (p0.Kind == 5) then (bif (spec_l1In p0.N 0 2147483647) then (bif (spec_NameOk p0.Key) then (bif (decide (p0.Text = (ByteArray.mk #[]))) then ((((p0.L).length : Nat) : Int) == 0) else false) else false) else false) else (Step.get (fun s2 => (bif s2 then (bif (p0.N == 0) then (bif (decide (p0.Key = (ByteArray.mk #[]))) then (bif (decide (p0.Text = (ByteArray.mk #[]))) then (spec_l1In (((p0.L).length : Nat) : Int) 1 4) else false) else false) else false) else (bif (p0.Kind == 9) then (bif (p0.N == 0) then (bif (decide (p0.Key = (ByteArray.mk #[]))) then (bif (decide (p0.Text = (ByteArray.mk #[]))) then ((((p0.L).length : Nat) : Int) == 1) else false) else false) else false) else false))) (spec_l5One_j2 p0))))))) (spec_l5One_j1 p0))
theorem c_spec_l5One (p0 : Pol) : FnOk prog 160 [.agg (Pol.opn false p0)] ⟨.one (.v (.bool (spec_l5One p0))), [], [], false⟩ := by
  refine FnOk.intro (E := env) envOk wide func160 rfl (by kernel_rfl) rfl rfl ?_
  have hg := spec_l5One.eq_1 p0
  have hown : ∀ g : Bool, AV.Own (AV.one (.v (.bool g))) := fun g => .v _
  refine seqE ?_
  refine litE (m := 0) rfl ?_
  refine seqE ?_
  refine seqE ?_
  refine joinE hg [1, 4] (fun x1 => [(5, .one (.v (.bool x1.s)))]) (fun x1 => [.keep 0]) (fun hb1 => ?_) (fun x1 hg => ?_)
  · have hb1 := hb1.trans (spec_l5One_j1.eq_1 ..)
    refine seqE ?_
    refine brQ hb1 (fun hb1 h1 => .inl ⟨⟨_, hb1⟩, [some 0], ⟨rfl, ⟨rfl, ⟨rfl, rfl, rfl, rfl⟩, rfl, trivial⟩, ⟨⟨rfl, rfl, ⟨rfl, rfl, rfl, rfl, rfl, trivial⟩⟩, trivial⟩, trivial⟩⟩) (fun hb1 h1 => ?_)
    refine seqE ?_
    exact brQ hb1 (fun hb1 h2 => .inl ⟨⟨_, hb1⟩, [some 0], ⟨rfl, ⟨rfl, ⟨rfl, rfl, rfl, rfl⟩, rfl, trivial⟩, ⟨⟨rfl, rfl, ⟨rfl, rfl, rfl, rfl, rfl, trivial⟩⟩, trivial⟩, trivial⟩⟩) (fun hb1 h2 => .inl ⟨⟨_, hb1⟩, [some 0], ⟨rfl, ⟨rfl, ⟨rfl, rfl, rfl, rfl⟩, rfl, trivial⟩, ⟨⟨rfl, rfl, ⟨rfl, rfl, rfl, rfl, rfl, trivial⟩⟩, trivial⟩, trivial⟩⟩)
  refine brE hg (fun hg h3 => ?_) (fun hg h3 => ?_)
  · refine seqE ?_
    refine brQ hg (fun hg h4 => ?_) (fun hg h4 => leafE hown hg)
    refine brD hg (fun hg h5 => ?_) (fun hg h5 => leafE hown hg)
    refine brD hg (fun hg h6 => ?_) (fun hg h6 => leafE hown hg)
    refine lenM fun hN7 => ?_
    exact leafE hown hg
  · refine seqE ?_
    refine brQ hg (fun hg h8 => ?_) (fun hg h8 => ?_)
    · refine seqE ?_
      refine .inl (⟨_, _, c_spec_l1In p0.N 0 2147483647, (FzAs.same _), ?_⟩)
      refine litE (m := 2) rfl ?_
      refine brE hg (fun hg h9 => ?_) (fun hg h9 => leafE hown hg)
      refine brD hg (fun hg h10 => ?_) (fun hg h10 => leafE hown hg)
      refine brD hg (fun hg h11 => ?_) (fun hg h11 => leafE hown hg)
      refine lenM fun hN12 => ?_
      exact leafE hown hg
    · refine seqE ?_
      refine brQ hg (fun hg h13 => ?_) (fun hg h13 => ?_)
      · refine seqE ?_
        refine brQ hg (fun hg h14 => ?_) (fun hg h14 => leafE hown hg)
        refine .inl (⟨_, _, c_spec_NameOk p0.Key, (FzAs.same _), ?_⟩)
        refine litE (m := 2) rfl ?_
        refine brE hg (fun hg h15 => ?_) (fun hg h15 => leafE hown hg)
        refine .inl (⟨_, _, c_spec_PlainOk p0.Text, (FzAs.same _), ?_⟩)
        refine litE (m := 3) rfl ?_
        refine brE hg (fun hg h16 => ?_) (fun hg h16 => leafE hown hg)
        refine lenM fun hN17 => ?_
        exact leafE hown hg
      · refine seqE ?_
        refine brQ hg (fun hg h18 => ?_) (fun hg h18 => ?_)
        · refine seqE ?_
          refine .inl (⟨_, _, c_spec_l1In p0.N 0 2147483647, (FzAs.same _), ?_⟩)
          refine litE (m := 2) rfl ?_
          refine brE hg (fun hg h19 => ?_) (fun hg h19 => leafE hown hg)
          refine .inl (⟨_, _, c_spec_NameOk p0.Key, (FzAs.same _), ?_⟩)
          refine litE (m := 3) rfl ?_
          refine brE hg (fun hg h20 => ?_) (fun hg h20 => leafE hown hg)
          refine brD hg (fun hg h21 => ?_) (fun hg h21 => leafE hown hg)
          refine lenM fun hN22 => ?_
          exact leafE hown hg
        · refine joinE hg [1] (fun x2 => [(91, .one (.v (.bool x2.s)))]) (fun x2 => [.keep 0]) (fun hb2 => ?_) (fun x2 hg => ?_)
          · have hb2 := hb2.trans (spec_l5One_j2.eq_1 ..)
            refine seqE ?_
            exact brQ hb2 (fun hb2 h23 => .inl ⟨⟨_, hb2⟩, [some 0], ⟨rfl, ⟨rfl, ⟨rfl, rfl, rfl, rfl⟩, trivial⟩, ⟨⟨rfl, rfl, ⟨rfl, rfl, rfl, rfl, rfl, trivial⟩⟩, trivial⟩, trivial⟩⟩) (fun hb2 h23 => .inl ⟨⟨_, hb2⟩, [some 0], ⟨rfl, ⟨rfl, ⟨rfl, rfl, rfl, rfl⟩, trivial⟩, ⟨⟨rfl, rfl, ⟨rfl, rfl, rfl, rfl, rfl, trivial⟩⟩, trivial⟩, trivial⟩⟩)
          refine brE hg (fun hg h24 => ?_) (fun hg h24 => ?_)
          · refine seqE ?_
            refine brQ hg (fun hg h25 => ?_) (fun hg h25 => leafE hown hg)
            refine brD hg (fun hg h26 => ?_) (fun hg h26 => leafE hown hg)
            refine brD hg (fun hg h27 => ?_) (fun hg h27 => leafE hown hg)
            refine lenM fun hN28 => ?_
            refine .inl (⟨_, _, c_spec_l1In (((p0.L).length : Nat) : Int) 1 4, (FzAs.same _), ?_⟩)
            refine litE (m := 2) rfl ?_
            exact leafE hown hg
          · refine seqE ?_
            refine brQ hg (fun hg h29 => ?_) (fun hg h29 => leafE hown hg)
            refine brQ hg (fun hg h30 => ?_) (fun hg h30 => leafE hown hg)
            refine brD hg (fun hg h31 => ?_) (fun hg h31 => leafE hown hg)
            refine brD hg (fun hg h32 => ?_) (fun hg h32 => leafE hown hg)
            refine lenM fun hN33 => ?_
            exact leafE hown hg
def spec_l5Deep_b1 (r0 : (Pol → Int → Bool)) (p1 : Int) (i1 : Nat) (s1 : Unit) (a1 : Pol) : Step (Unit) Bool :=
  (bif (!(r0 a1 (IntKind.i64.wrap (p1 + 1)))) then (.done false) else (.next ()))
def spec_l5DeepR : Nat → Pol → Int → Bool
  | 0, _, _ => default
  | n + 1, p0, p1 => (bif (decide (p1 > 4)) then false else (bif (!(spec_l5One p0)) then false else (Fin.get (fun s1 => true) (loopL (spec_l5Deep_b1 (spec_l5DeepR n) p1) 0 () p0.L))))
theorem cR_spec_l5Deep : ∀ (n : Nat) (p0 : Pol) (p1 : Int), Pol.dep p0 < n → FnOk prog 127 [.agg (Pol.opn false p0), .one (.v (.int .i64 p1))] ⟨.one (.v (.bool (spec_l5DeepR n p0 p1))), [], [], false⟩ := by
  intro n
  induction n with
  | zero => intro p0 p1 hd0; omega
  | succ n ih =>
    intro p0 p1 hd0
    refine FnOk.intro (E := env) envOk wide func127 rfl (by kernel_rfl) rfl rfl ?_
    have hg : spec_l5DeepR (n + 1) p0 p1 = _ := spec_l5DeepR.eq_2 ..
    have hown : ∀ g : Bool, AV.Own (AV.one (.v (.bool g))) := fun g => .v _
    refine seqE ?_
    refine litE (m := 0) rfl ?_
    refine seqE ?_
    refine seqE ?_
    refine brDF hg (fun hg h1 => ?_) (fun hg h1 => ?_)
    · refine .inl (⟨_, _, c_spec_l5One p0, (FzAs.same _), ?_⟩)
      refine litE (m := 2) rfl ?_
      refine brE hg (fun hg h2 => ?_) (fun hg h2 => ?_)
      · refine seqE ?_
        exact leafE hown hg
      · refine seqE ?_
        refine seqE ?_
        refine loopLE hg [1, 2] (fun x1 => [(5, .one (.v (.int .i64 ((x1.i : Nat) : Int))))]) (fun x1 => [.keep 0, .dead]) [some 0, none] ?_ (fun x1 => ?_)
        · exact ⟨rfl, ⟨rfl, rfl, ⟨rfl, rfl, rfl, rfl⟩, trivial⟩, ⟨⟨rfl, rfl, ⟨rfl, rfl, rfl, rfl, rfl, trivial⟩⟩, trivial⟩, trivial⟩
        refine seqE ?_
        refine seqE ?_
        refine lenM fun hN3 => ?_
        refine tstL (fun hi1 => ?_) (fun hi1 => ?_)
        · have hb1 := (x1.bdy hi1).trans (spec_l5Deep_b1.eq_1 ..)
          have hw1 := wrap_succ hi1 (by first | assumption | omega)
          refine seqE ?_
          refine seqE ?_
          refine idxAtR (Pol.cells_eq false) hi1 ?_
          refine .inl (⟨_, _, ih (p0.L[x1.i]'hi1) (IntKind.i64.wrap (p1 + 1)) (by first | exact hm0 _ (List.getElem_mem _) | exact hm0 _ (List.mem_of_getElem? (by assumption)) | exact Nat.lt_of_lt_of_le (Pol.dep_lt (List.getElem_mem _)) (Nat.le_of_lt_succ hd0) | exact Nat.lt_of_lt_of_le (Pol.dep_lt (List.mem_of_getElem? (by assumption))) (Nat.le_of_lt_succ hd0)), (FzAs.same _), ?_⟩)
          refine litE (m := 3) rfl ?_
          refine brE hb1 (fun hb1 h4 => ?_) (fun hb1 h4 => x1.goE hi1 hb1 [some 0, none] ⟨rfl, ⟨(eqInt hw1), rfl, ⟨rfl, rfl, rfl, rfl⟩, trivial⟩, ⟨⟨rfl, rfl, ⟨rfl, rfl, rfl, rfl, rfl, trivial⟩⟩, trivial⟩, trivial⟩)
          refine seqE ?_
          have hg := donE hg (x1.outD hi1 hb1)
          exact leafE hown hg
        have hg := finE hg (x1.fin hi1)
        refine seqE ?_
        exact leafE hown hg
    · refine seqE ?_
      exact leafE hown hg
def spec_l5Deep (p0 : Pol) (p1 : Int) : Bool := spec_l5DeepR (Pol.dep p0 + 1) p0 p1
theorem c_spec_l5Deep (p0 : Pol) (p1 : Int) : FnOk prog 127 [.agg (Pol.opn false p0), .one (.v (.int .i64 p1))] ⟨.one (.v (.bool (spec_l5Deep p0 p1))), [], [], false⟩ := cR_spec_l5Deep _ p0 p1 (Nat.lt_succ_self _)
def spec_PolOk (p0 : Pol) : Bool :=
  (bif (decide ((spec_PolCount p0) ≤ 12)) then (spec_l5Deep p0 1) else false)
theorem c_spec_PolOk (p0 : Pol) : FnOk prog 86 [.agg (Pol.opn false p0)] ⟨.one (.v (.bool (spec_PolOk p0))), [], [], false⟩ := by
  refine FnOk.intro (E := env) envOk wide func86 rfl (by kernel_rfl) rfl rfl ?_
  have hg := spec_PolOk.eq_1 p0
  have hown : ∀ g : Bool, AV.Own (AV.one (.v (.bool g))) := fun g => .v _
  refine seqE ?_
  refine litE (m := 0) rfl ?_
  refine seqE ?_
  refine .inl (⟨_, _, c_spec_PolCount p0, (FzAs.same _), ?_⟩)
  refine litE (m := 2) rfl ?_
  refine brD hg (fun hg h1 => ?_) (fun hg h1 => leafE hown hg)
  refine .inl (⟨_, _, c_spec_l5Deep p0 1, (FzAs.same _), ?_⟩)
  refine litE (m := 3) rfl ?_
  exact leafE hown hg
def spec_ConfOk (p0 : Conf) : Bool :=
  (bif (spec_l1In p0.Stripes 1 3) then (bif (spec_l1In p0.Wait 1 50) then (bif (spec_l1In p0.Budget 1 190) then (bif (spec_l1In p0.Cache 1 6) then (bif (spec_l1In p0.Queue 1 4) then (bif (spec_l1In p0.Rate 0 99) then (bif (spec_l1In p0.Burst 0 999) then (spec_PolOk p0.Rule) else false) else false) else false) else false) else false) else false) else false)
theorem c_spec_ConfOk (p0 : Conf) : FnOk prog 50 [.agg ((Conf.cells false) p0)] ⟨.one (.v (.bool (spec_ConfOk p0))), [], [], false⟩ := by
  refine FnOk.intro (E := env) envOk wide func50 rfl (by kernel_rfl) rfl rfl ?_
  have hg := spec_ConfOk.eq_1 p0
  have hown : ∀ g : Bool, AV.Own (AV.one (.v (.bool g))) := fun g => .v _
  refine seqE ?_
  refine litE (m := 0) rfl ?_
  refine seqE ?_
  refine .inl (⟨_, _, c_spec_l1In p0.Stripes 1 3, (FzAs.same _), ?_⟩)
  refine litE (m := 2) rfl ?_
  refine brE hg (fun hg h1 => ?_) (fun hg h1 => leafE hown hg)
  refine .inl (⟨_, _, c_spec_l1In p0.Wait 1 50, (FzAs.same _), ?_⟩)
  refine litE (m := 3) rfl ?_
  refine brE hg (fun hg h2 => ?_) (fun hg h2 => leafE hown hg)
  refine .inl (⟨_, _, c_spec_l1In p0.Budget 1 190, (FzAs.same _), ?_⟩)
  refine litE (m := 4) rfl ?_
  refine brE hg (fun hg h3 => ?_) (fun hg h3 => leafE hown hg)
  refine .inl (⟨_, _, c_spec_l1In p0.Cache 1 6, (FzAs.same _), ?_⟩)
  refine litE (m := 5) rfl ?_
  refine brE hg (fun hg h4 => ?_) (fun hg h4 => leafE hown hg)
  refine .inl (⟨_, _, c_spec_l1In p0.Queue 1 4, (FzAs.same _), ?_⟩)
  refine litE (m := 6) rfl ?_
  refine brE hg (fun hg h5 => ?_) (fun hg h5 => leafE hown hg)
  refine .inl (⟨_, _, c_spec_l1In p0.Rate 0 99, (FzAs.same _), ?_⟩)
  refine litE (m := 7) rfl ?_
  refine brE hg (fun hg h6 => ?_) (fun hg h6 => leafE hown hg)
  refine .inl (⟨_, _, c_spec_l1In p0.Burst 0 999, (FzAs.same _), ?_⟩)
  refine litE (m := 8) rfl ?_
  refine brE hg (fun hg h7 => ?_) (fun hg h7 => leafE hown hg)
  refine .inl (⟨_, _, c_spec_PolOk p0.Rule, (FzAs.same _), ?_⟩)
  refine litE (m := 9) rfl ?_
  exact leafE hown hg
def spec_AttrOk (p0 : Attr) : Bool :=
  (bif (!(spec_NameOk p0.Key)) then false else (bif p0.Num then (bif (spec_l1In p0.N 0 2147483647) then (decide (p0.Text = (ByteArray.mk #[]))) else false) else (bif (p0.N == 0) then (spec_PlainOk p0.Text) else false)))
theorem c_spec_AttrOk (p0 : Attr) : FnOk prog 161 [.agg (Attr.cells p0)] ⟨.one (.v (.bool (spec_AttrOk p0))), [], [], false⟩ := by
  refine FnOk.intro (E := env) envOk wide func161 rfl (by kernel_rfl) rfl rfl ?_
  have hg := spec_AttrOk.eq_1 p0
  have hown : ∀ g : Bool, AV.Own (AV.one (.v (.bool g))) := fun g => .v _
  refine seqE ?_
  refine litE (m := 0) rfl ?_
  refine seqE ?_
  refine seqE ?_
  refine .inl (⟨_, _, c_spec_NameOk p0.Key, (FzAs.same _), ?_⟩)
  refine litE (m := 2) rfl ?_
  refine brE hg (fun hg h1 => ?_) (fun hg h1 => ?_)
  · refine seqE ?_
    exact leafE hown hg
  · refine seqE ?_
    refine seqE ?_
    refine brE hg (fun hg h2 => ?_) (fun hg h2 => ?_)
    · refine seqE ?_
      refine .inl (⟨_, _, c_spec_l1In p0.N 0 2147483647, (FzAs.same _), ?_⟩)
      refine litE (m := 3) rfl ?_
      exact brE hg (fun hg h3 => leafE hown hg) (fun hg h3 => leafE hown hg)
    · refine seqE ?_
      refine brQ hg (fun hg h4 => ?_) (fun hg h4 => leafE hown hg)
      refine .inl (⟨_, _, c_spec_PlainOk p0.Text, (FzAs.same _), ?_⟩)
      refine litE (m := 3) rfl ?_
      exact leafE hown hg
def spec_AttrsOk_b1 (p0 : (List Attr)) (i1 : Nat) (s1 : Unit) (a1 : Attr) : Step (Unit) Bool :=
  (bif (!(spec_AttrOk a1)) then (.done false) else (bif (decide (((i1 : Nat) : Int) > 0)) then (bif (!Op.bytesLess ((p0[((IntKind.i64.wrap (((i1 : Nat) : Int) - 1))).toNat]?.getD default).Key).toList (a1.Key).toList) then (.done false) else (.next ())) else (.next ())))
def spec_AttrsOk (p0 : (List Attr)) : Bool :=
  (Fin.get (fun s1 => (decide ((((p0).length : Nat) : Int) ≤ 4))) (loopL (spec_AttrsOk_b1 p0) 0 () p0))
theorem c_spec_AttrsOk (p0 : (List Attr)) : FnOk prog 131 [.one (.s false 4 (List.map Attr.cells p0))] ⟨.one (.v (.bool (spec_AttrsOk p0))), [], [], false⟩ := by
  refine FnOk.intro (E := env) envOk wide func131 rfl (by kernel_rfl) rfl rfl ?_
  have hg := spec_AttrsOk.eq_1 p0
  have hown : ∀ g : Bool, AV.Own (AV.one (.v (.bool g))) := fun g => .v _
  refine seqE ?_
  refine seqE ?_
  refine seqE ?_
  refine loopLE hg [0] (fun x1 => [(3, .one (.v (.int .i64 ((x1.i : Nat) : Int))))]) (fun x1 => []) [] ?_ (fun x1 => ?_)
  · exact ⟨rfl, ⟨rfl, rfl, trivial⟩, trivial, trivial⟩
  refine seqE ?_
  refine seqE ?_
  refine lenM fun hN1 => ?_
  refine tstL (fun hi1 => ?_) (fun hi1 => ?_)
  · have hb1 := (x1.bdy hi1).trans (spec_AttrsOk_b1.eq_1 ..)
    have hw1 := wrap_succ hi1 (by first | assumption | omega)
    refine seqE ?_
    refine seqE ?_
    refine .inl ⟨by kernel_rfl, ?_⟩
    refine idxAt hi1 ?_
    refine ⟨_, _, c_spec_AttrOk (p0[x1.i]'hi1), (FzAs.same _), ?_⟩
    refine brF hb1 (fun hb1 h2 => ?_) (fun hb1 h2 => ?_)
    · refine brD hb1 (fun hb1 h3 => ?_) (fun hb1 h3 => x1.goE hi1 hb1 [] ⟨rfl, ⟨(eqInt hw1), rfl, trivial⟩, trivial, trivial⟩)
      refine idxOf (l := p0) (by (first | omega | (simp (disch := omega) only [wrap_small, mid_eq, List.length_map]; omega) | (simp; done) | (simp; omega) | (simp at *; omega) | (simp at *; done) | (simp_all; done) | (simp_all; omega))) (fun hq4 => ?_)
      refine idxAt hi1 ?_
      refine brE hb1 (fun hb1 h5 => ?_) (fun hb1 h5 => x1.goE hi1 hb1 [] ⟨rfl, ⟨(eqInt hw1), rfl, trivial⟩, trivial, trivial⟩)
      refine seqE ?_
      have hg := donE hg (x1.outD hi1 hb1)
      exact leafE hown hg
    · refine seqE ?_
      have hg := donE hg (x1.outD hi1 hb1)
      exact leafE hown hg
  have hg := finE hg (x1.fin hi1)
  refine seqE ?_
  refine lenM fun hN6 => ?_
  exact leafE hown hg
def spec_AttrSize (p0 : Attr) : Int :=
  (bif p0.Num then (IntKind.i64.wrap ((((p0.Key).size : Nat) : Int) + 4)) else (IntKind.i64.wrap ((((p0.Key).size : Nat) : Int) + (((p0.Text).size : Nat) : Int))))
theorem c_spec_AttrSize (p0 : Attr) : FnOk prog 162 [.agg (Attr.cells p0)] ⟨.one (.v (.int .i64 (spec_AttrSize p0))), [], [], false⟩ := by
  refine FnOk.intro (E := env) envOk wide func162 rfl (by kernel_rfl) rfl rfl ?_
  have hg := spec_AttrSize.eq_1 p0
  have hown : ∀ g : Int, AV.Own (AV.one (.v (.int .i64 g))) := fun g => .v _
  refine seqE ?_
  refine litE (m := 0) rfl ?_
  refine seqE ?_
  refine seqE ?_
  refine brE hg (fun hg h1 => ?_) (fun hg h1 => ?_)
  · refine seqE ?_
    refine lenS fun hN2 => ?_
    exact leafE hown hg
  · refine seqE ?_
    refine lenS fun hN3 => ?_
    refine lenS fun hN4 => ?_
    exact leafE hown hg
def spec_SizeOf_b1 (i1 : Nat) (s1 : Int) (a1 : Attr) : Step (Int) Int :=
  (.next (IntKind.i64.wrap (s1 + (spec_AttrSize a1))))
def spec_SizeOf (p0 : Span) : Int :=
  (Fin.get (fun s1 => s1) (loopL spec_SizeOf_b1 0 12 p0.Attrs))
theorem c_spec_SizeOf (p0 : Span) : FnOk prog 132 [.agg ((Span.cells false) p0)] ⟨.one (.v (.int .i64 (spec_SizeOf p0))), [], [], false⟩ := by
  refine FnOk.intro (E := env) envOk wide func132 rfl (by kernel_rfl) rfl rfl ?_
  have hg := spec_SizeOf.eq_1 p0
  have hown : ∀ g : Int, AV.Own (AV.one (.v (.int .i64 g))) := fun g => .v _
  refine seqE ?_
  refine litE (m := 0) rfl ?_
  refine seqE ?_
  refine seqE ?_
  refine seqE ?_
  refine loopLE hg [1] (fun x1 => [(3, .one (.v (.int .i64 x1.s))), (4, .one (.v (.int .i64 ((x1.i : Nat) : Int))))]) (fun x1 => [.keep 0]) [some 0] ?_ (fun x1 => ?_)
  · exact ⟨rfl, ⟨rfl, rfl, ⟨rfl, rfl, rfl, rfl⟩, trivial⟩, ⟨⟨rfl, rfl, ⟨rfl, rfl, rfl, rfl, rfl, rfl, trivial⟩⟩, trivial⟩, trivial⟩
  refine seqE ?_
  refine seqE ?_
  refine lenM fun hN1 => ?_
  refine tstL (fun hi1 => ?_) (fun hi1 => ?_)
  · have hb1 := (x1.bdy hi1).trans (spec_SizeOf_b1.eq_1 ..)
    have hw1 := wrap_succ hi1 (by first | assumption | omega)
    refine seqE ?_
    refine idxAt hi1 ?_
    refine .inl (⟨_, _, c_spec_AttrSize (p0.Attrs[x1.i]'hi1), (FzAs.same _), ?_⟩)
    refine litE (m := 2) rfl ?_
    exact x1.goE hi1 hb1 [some 0] ⟨rfl, ⟨rfl, (eqInt hw1), ⟨rfl, rfl, rfl, rfl⟩, trivial⟩, ⟨⟨rfl, rfl, ⟨rfl, rfl, rfl, rfl, rfl, rfl, trivial⟩⟩, trivial⟩, trivial⟩
  have hg := finE hg (x1.fin hi1)
  refine seqE ?_
  exact leafE hown hg
def spec_SpanOk (p0 : Span) : Bool :=
  (bif (spec_l1In p0.Trace 1 999) then (bif (spec_l1In p0.Id 1 999) then (bif (spec_l1In p0.Start 0 99999) then (bif (spec_l1In p0.End p0.Start 99999) then (bif (spec_AttrsOk p0.Attrs) then (decide ((spec_SizeOf p0) ≤ 96)) else false) else false) else false) else false) else false)
theorem c_spec_SpanOk (p0 : Span) : FnOk prog 92 [.agg ((Span.cells false) p0)] ⟨.one (.v (.bool (spec_SpanOk p0))), [], [], false⟩ := by
  refine FnOk.intro (E := env) envOk wide func92 rfl (by kernel_rfl) rfl rfl ?_
  have hg := spec_SpanOk.eq_1 p0
  have hown : ∀ g : Bool, AV.Own (AV.one (.v (.bool g))) := fun g => .v _
  refine seqE ?_
  refine litE (m := 0) rfl ?_
  refine seqE ?_
  refine .inl (⟨_, _, c_spec_l1In p0.Trace 1 999, (FzAs.same _), ?_⟩)
  refine litE (m := 2) rfl ?_
  refine brE hg (fun hg h1 => ?_) (fun hg h1 => leafE hown hg)
  refine .inl (⟨_, _, c_spec_l1In p0.Id 1 999, (FzAs.same _), ?_⟩)
  refine litE (m := 3) rfl ?_
  refine brE hg (fun hg h2 => ?_) (fun hg h2 => leafE hown hg)
  refine .inl (⟨_, _, c_spec_l1In p0.Start 0 99999, (FzAs.same _), ?_⟩)
  refine litE (m := 4) rfl ?_
  refine brE hg (fun hg h3 => ?_) (fun hg h3 => leafE hown hg)
  refine .inl (⟨_, _, c_spec_l1In p0.End p0.Start 99999, (FzAs.same _), ?_⟩)
  refine litE (m := 5) rfl ?_
  refine brE hg (fun hg h4 => ?_) (fun hg h4 => leafE hown hg)
  refine .inl (⟨_, _, c_spec_AttrsOk p0.Attrs, (FzAs.same _), ?_⟩)
  refine litE (m := 6) rfl ?_
  refine brE hg (fun hg h5 => ?_) (fun hg h5 => leafE hown hg)
  refine .inl (⟨_, _, c_spec_SizeOf p0, (FzAs.same _), ?_⟩)
  refine litE (m := 7) rfl ?_
  exact leafE hown hg
def spec_TrailOk_b1 (p0 : Trail) (i1 : Nat) (s1 : Unit) (a1 : Span) : Step (Unit) Bool :=
  (bif (!(spec_SpanOk a1)) then (.done false) else (bif (a1.Trace != p0.Id) then (.done false) else (.next ())))
def spec_TrailOk (p0 : Trail) : Bool :=
  (Fin.get (fun s1 => (bif (spec_l1In p0.Id 1 999) then (bif (decide (p0.Stamp ≥ 1)) then (bif (spec_l1In p0.First 0 2147483647) then (decide ((((p0.Spans).length : Nat) : Int) ≥ 1)) else false) else false) else false)) (loopL (spec_TrailOk_b1 p0) 0 () p0.Spans))
theorem c_spec_TrailOk (p0 : Trail) : FnOk prog 87 [.agg ((Trail.cells false) p0)] ⟨.one (.v (.bool (spec_TrailOk p0))), [], [], false⟩ := by
  refine FnOk.intro (E := env) envOk wide func87 rfl (by kernel_rfl) rfl rfl ?_
  have hg := spec_TrailOk.eq_1 p0
  have hown : ∀ g : Bool, AV.Own (AV.one (.v (.bool g))) := fun g => .v _
  refine seqE ?_
  refine litE (m := 0) rfl ?_
  refine seqE ?_
  refine seqE ?_
  refine loopLE hg [1] (fun x1 => [(3, .one (.v (.int .i64 ((x1.i : Nat) : Int))))]) (fun x1 => [.keep 0]) [some 0] ?_ (fun x1 => ?_)
  · exact ⟨rfl, ⟨rfl, ⟨rfl, rfl, rfl, rfl⟩, trivial⟩, ⟨⟨rfl, rfl, ⟨rfl, rfl, rfl, rfl, trivial⟩⟩, trivial⟩, trivial⟩
  refine seqE ?_
  refine seqE ?_
  refine lenM fun hN1 => ?_
  refine tstL (fun hi1 => ?_) (fun hi1 => ?_)
  · have hb1 := (x1.bdy hi1).trans (spec_TrailOk_b1.eq_1 ..)
    have hw1 := wrap_succ hi1 (by first | assumption | omega)
    refine seqE ?_
    refine seqE ?_
    refine .inl ⟨by kernel_rfl, ?_⟩
    refine idxAt hi1 ?_
    refine ⟨_, _, c_spec_SpanOk (p0.Spans[x1.i]'hi1), (FzAs.same _), ?_⟩
    refine brF hb1 (fun hb1 h2 => ?_) (fun hb1 h2 => ?_)
    · refine idxAt hi1 ?_
      refine brW hb1 (fun hb1 h3 => ?_) (fun hb1 h3 => x1.goE hi1 hb1 [some 0] ⟨rfl, ⟨(eqInt hw1), ⟨rfl, rfl, rfl, rfl⟩, trivial⟩, ⟨⟨rfl, rfl, ⟨rfl, rfl, rfl, rfl, trivial⟩⟩, trivial⟩, trivial⟩)
      refine seqE ?_
      have hg := donE hg (x1.outD hi1 hb1)
      exact leafE hown hg
    · refine seqE ?_
      have hg := donE hg (x1.outD hi1 hb1)
      exact leafE hown hg
  have hg := finE hg (x1.fin hi1)
  refine seqE ?_
  refine .inl (⟨_, _, c_spec_l1In p0.Id 1 999, (FzAs.same _), ?_⟩)
  refine litE (m := 2) rfl ?_
  refine brE hg (fun hg h4 => ?_) (fun hg h4 => leafE hown hg)
  refine brD hg (fun hg h5 => ?_) (fun hg h5 => leafE hown hg)
  refine .inl (⟨_, _, c_spec_l1In p0.First 0 2147483647, (FzAs.same _), ?_⟩)
  refine litE (m := 3) rfl ?_
  refine brE hg (fun hg h6 => ?_) (fun hg h6 => leafE hown hg)
  refine lenM fun hN7 => ?_
  exact leafE hown hg
def spec_Mix (p0 : Int) : Int :=
  (iAnd .i64 (iXor .i64 (iXor .i64 (iAnd .i64 (iXor .i64 (iAnd .i64 p0 65535) (iShl .i64 (iAnd .i64 p0 65535) 7)) 65535) (iShr .i64 (iAnd .i64 (iXor .i64 (iAnd .i64 p0 65535) (iShl .i64 (iAnd .i64 p0 65535) 7)) 65535) 9)) (iShl .i64 (iXor .i64 (iAnd .i64 (iXor .i64 (iAnd .i64 p0 65535) (iShl .i64 (iAnd .i64 p0 65535) 7)) 65535) (iShr .i64 (iAnd .i64 (iXor .i64 (iAnd .i64 p0 65535) (iShl .i64 (iAnd .i64 p0 65535) 7)) 65535) 9)) 8)) 65535)
theorem c_spec_Mix (p0 : Int) : FnOk prog 128 [.one (.v (.int .i64 p0))] ⟨.one (.v (.int .i64 (spec_Mix p0))), [], [], false⟩ := by
  refine FnOk.intro (E := env) envOk wide func128 rfl (by kernel_rfl) rfl rfl ?_
  have hg := spec_Mix.eq_1 p0
  have hown : ∀ g : Int, AV.Own (AV.one (.v (.int .i64 g))) := fun g => .v _
  refine seqE ?_
  refine seqE ?_
  refine seqE ?_
  refine andE (by (first | omega | (simp (disch := omega) only [wrap_small, mid_eq, List.length_map]; omega) | (simp; done) | (simp; omega) | (simp at *; omega) | (simp at *; done) | (simp_all; done) | (simp_all; omega))) ?_
  refine seqE ?_
  refine andE (by (first | omega | (simp (disch := omega) only [wrap_small, mid_eq, List.length_map]; omega) | (simp; done) | (simp; omega) | (simp at *; omega) | (simp at *; done) | (simp_all; done) | (simp_all; omega))) ?_
  refine seqE ?_
  refine andE (by (first | omega | (simp (disch := omega) only [wrap_small, mid_eq, List.length_map]; omega) | (simp; done) | (simp; omega) | (simp at *; omega) | (simp at *; done) | (simp_all; done) | (simp_all; omega))) ?_
  exact leafE hown hg
def spec_StripeOf (p0 : Int) (p1 : Int) : Int :=
  (bif (decide (p1 < 1)) then 0 else (Int.tmod (spec_Mix p0) p1))
theorem c_spec_StripeOf (p0 : Int) (p1 : Int) : FnOk prog 88 [.one (.v (.int .i64 p0)), .one (.v (.int .i64 p1))] ⟨.one (.v (.int .i64 (spec_StripeOf p0 p1))), [], [], false⟩ := by
  refine FnOk.intro (E := env) envOk wide func88 rfl (by kernel_rfl) rfl rfl ?_
  have hg := spec_StripeOf.eq_1 p0 p1
  have hown : ∀ g : Int, AV.Own (AV.one (.v (.int .i64 g))) := fun g => .v _
  refine seqE ?_
  refine seqE ?_
  refine seqE ?_
  refine brD hg (fun hg h1 => ?_) (fun hg h1 => ?_)
  · refine seqE ?_
    exact leafE hown hg
  · refine seqE ?_
    refine .inl (⟨_, _, c_spec_Mix p0, (FzAs.same _), ?_⟩)
    refine litE (m := 1) rfl ?_
    refine andE (by (first | omega | (simp (disch := omega) only [wrap_small, mid_eq, List.length_map]; omega) | (simp; done) | (simp; omega) | (simp at *; omega) | (simp at *; done) | (simp_all; done) | (simp_all; omega))) ?_
    exact leafE hown hg
theorem spec_StripeOf_lt (a n : Int) (hn : 1 ≤ n) : spec_StripeOf a n < n := by
  unfold spec_StripeOf
  rw [show decide (n < 1) = false from decide_eq_false (by omega), cond_false]
  exact Int.tmod_lt_of_pos _ (by omega)
def spec_l11Has_b1 (p1 : Int) (i1 : Nat) (s1 : Unit) (a1 : Int) : Step (Unit) Bool :=
  (bif (a1 == p1) then (.done true) else (.next ()))
def spec_l11Has (p0 : (List Int)) (p1 : Int) : Bool :=
  (Fin.get (fun s1 => false) (loopL (spec_l11Has_b1 p1) 0 () p0))
theorem c_spec_l11Has (p0 : (List Int)) (p1 : Int) : FnOk prog 89 [.one (.s false 1 (List.map cInt p0)), .one (.v (.int .i64 p1))] ⟨.one (.v (.bool (spec_l11Has p0 p1))), [], [], false⟩ := by
  refine FnOk.intro (E := env) envOk wide func89 rfl (by kernel_rfl) rfl rfl ?_
  have hg := spec_l11Has.eq_1 p0 p1
  have hown : ∀ g : Bool, AV.Own (AV.one (.v (.bool g))) := fun g => .v _
  refine seqE ?_
  refine seqE ?_
  refine seqE ?_
  refine loopLE hg [0, 1] (fun x1 => [(5, .one (.v (.int .i64 ((x1.i : Nat) : Int))))]) (fun x1 => []) [] ?_ (fun x1 => ?_)
  · exact ⟨rfl, ⟨rfl, rfl, rfl, trivial⟩, trivial, trivial⟩
  refine seqE ?_
  refine seqE ?_
  refine lenM fun hN1 => ?_
  refine tstL (fun hi1 => ?_) (fun hi1 => ?_)
  · have hb1 := (x1.bdy hi1).trans (spec_l11Has_b1.eq_1 ..)
    have hw1 := wrap_succ hi1 (by first | assumption | omega)
    refine seqE ?_
    refine seqE ?_
    refine idxAt hi1 ?_
    refine brQ hb1 (fun hb1 h2 => ?_) (fun hb1 h2 => x1.goE hi1 hb1 [] ⟨rfl, ⟨(eqInt hw1), rfl, rfl, trivial⟩, trivial, trivial⟩)
    refine seqE ?_
    have hg := donE hg (x1.outD hi1 hb1)
    exact leafE hown hg
  have hg := finE hg (x1.fin hi1)
  refine seqE ?_
  exact leafE hown hg
def spec_StripesOk_j3 (a2 : Trail) (p0 : (List Stripe)) (i1 : Nat) (i2 : Nat) (a1 : Stripe) : Step (Bool × Bool) (Step ((List Int)) (Step ((List Int)) Bool)) :=
  (bif (!(spec_TrailOk a2)) then (.done (.done (.done false))) else (bif ((spec_StripeOf a2.Id (((p0).length : Nat) : Int)) != ((i1 : Nat) : Int)) then (.done (.done (.done false))) else (bif (decide (((i2 : Nat) : Int) > 0)) then (bif (decide ((a1.L[((IntKind.i64.wrap (((i2 : Nat) : Int) - 1))).toNat]?.getD default).Id ≥ a2.Id)) then (.done (.done (.done false))) else (.next (true, (decide ((a1.L[((IntKind.i64.wrap (((i2 : Nat) : Int) - 1))).toNat]?.getD default).Id ≥ a2.Id))))) else (.next (false, false)))))
def spec_StripesOk_b2 (p0 : (List Stripe)) (i1 : Nat) (a1 : Stripe) (i2 : Nat) (s2 : (List Int)) (a2 : Trail) : Step ((List Int)) (Step ((List Int)) Bool) :=
  (Step.get (fun s3 => (bif (spec_l11Has s2 a2.Stamp) then (.done (.done false)) else (.next (s2 ++ [a2.Stamp])))) (spec_StripesOk_j3 a2 p0 i1 i2 a1))
def spec_StripesOk_b1 (p0 : (List Stripe)) (i1 : Nat) (s1 : (List Int)) (a1 : Stripe) : Step ((List Int)) Bool :=
  (bif (!(spec_l1In a1.Held (-1) 4)) then (.done false) else (Fin.get (fun s2 => (.next s2)) (loopL (spec_StripesOk_b2 p0 i1 a1) 0 s1 a1.L)))
def spec_StripesOk (p0 : (List Stripe)) : Bool :=
  (bif (!(spec_l1In (((p0).length : Nat) : Int) 1 3)) then false else (Fin.get (fun s1 => true) (loopL (spec_StripesOk_b1 p0) 0 ([] : List Int) p0)))
theorem c_spec_StripesOk (p0 : (List Stripe)) (hs : bdS Stripe.bd 1048576 p0) : FnOk prog 51 [.one (.s false 2 (List.map (Stripe.cells false) p0))] ⟨.one (.v (.bool (spec_StripesOk p0))), [], [], false⟩ := by
  refine FnOk.intro (E := env) envOk wide func51 rfl (by kernel_rfl) rfl rfl ?_
  have hg := spec_StripesOk.eq_1 p0
  have hown : ∀ g : Bool, AV.Own (AV.one (.v (.bool g))) := fun g => .v _
  refine seqE ?_
  refine seqE ?_
  refine seqE ?_
  refine lenM fun hN1 => ?_
  refine .inl (⟨_, _, c_spec_l1In (((p0).length : Nat) : Int) 1 3, (FzAs.same _), ?_⟩)
  refine litE (m := 1) rfl ?_
  refine brE hg (fun hg h2 => ?_) (fun hg h2 => ?_)
  · refine seqE ?_
    exact leafE hown hg
  · refine seqE ?_
    refine litE (m := 1) rfl ?_
    refine seqE ?_
    refine seqE ?_
    refine loopLI (fun (i : Nat) (s : List Int) => s.length ≤ 1048576 * i) hg (Nat.zero_le _) [0] (fun x1 => [(3, .one (.n 1 [] 1 0 (x1.s).length)), (4, .one (.v (.int .i64 ((x1.i : Nat) : Int))))]) (fun x1 => [.dead, .new ⟨1, false, List.map cInt x1.s, 0⟩]) [none, some 1] ?_ (fun x1 => ?_)
    · exact ⟨rfl, ⟨⟨rfl, rfl, rfl, rfl, by (first | rfl | omega | (dsimp only; omega) | (simp; done) | (simp; omega) | (simp [LstSt.init, LstSt.step, LstInv.init, CntSt.init, CntSt.step, CntInv.init, WhlSt.init, WhlSt.step]; done) | (simp [LstSt.init, LstSt.step, LstInv.init, CntSt.init, CntSt.step, CntInv.init, WhlSt.init, WhlSt.step]; omega))⟩, rfl, rfl, trivial⟩, ⟨⟨rfl, rfl, rfl⟩, trivial⟩, trivial⟩
    have hI1 := x1.hI
    try dsimp only at hI1
    refine seqE ?_
    refine seqE ?_
    refine lenM fun hN3 => ?_
    refine tstL (fun hi1 => ?_) (fun hi1 => ?_)
    · have hb1 := (x1.bdy hi1).trans (spec_StripesOk_b1.eq_1 ..)
      have hw1 := wrap_succ hi1 (by first | assumption | omega)
      refine seqE ?_
      refine seqE ?_
      refine seqE ?_
      refine idxAt hi1 ?_
      refine .inl (⟨_, _, c_spec_l1In (p0[x1.i]'hi1).Held (-1) 4, (FzAs.same _), ?_⟩)
      refine litE (m := 3) rfl ?_
      refine brE hb1 (fun hb1 h4 => ?_) (fun hb1 h4 => ?_)
      · refine seqE ?_
        have hg := donE hg (x1.outD hi1 hb1)
        exact leafE hown hg
      · refine seqE ?_
        refine loopLI (fun (i : Nat) (s : List Int) => s.length ≤ 1048576 * x1.i + i) hb1 (by have q := hI1; omega) [0, 4] (fun x2 => [(3, .one (.n 1 [] 1 0 (x2.s).length)), (5, .one (.v (.int .i64 ((x2.i : Nat) : Int))))]) (fun x2 => [.dead, .new ⟨1, false, List.map cInt x2.s, 0⟩, .dead]) [none, some 1, none] ?_ (fun x2 => ?_)
        · exact ⟨rfl, ⟨⟨rfl, rfl, rfl, rfl, by (first | rfl | omega | (dsimp only; omega) | (simp; done) | (simp; omega) | (simp [LstSt.init, LstSt.step, LstInv.init, CntSt.init, CntSt.step, CntInv.init, WhlSt.init, WhlSt.step]; done) | (simp [LstSt.init, LstSt.step, LstInv.init, CntSt.init, CntSt.step, CntInv.init, WhlSt.init, WhlSt.step]; omega))⟩, rfl, rfl, rfl, trivial⟩, ⟨⟨rfl, rfl, rfl⟩, trivial⟩, trivial⟩
        have hI2 := x2.hI
        try dsimp only at hI2
        refine seqE ?_
        refine seqE ?_
        refine idxAt hi1 ?_
        refine lenM fun hN5 => ?_
        refine tstL (fun hi2 => ?_) (fun hi2 => ?_)
        · have hb2 := (x2.bdy hi2).trans (spec_StripesOk_b2.eq_1 ..)
          have hw2 := wrap_succ hi2 (by first | assumption | omega)
          refine seqE ?_
          refine seqE ?_
          refine idxAt hi1 ?_
          refine idxAt hi2 ?_
          refine litE (m := 3) rfl ?_
          refine seqE ?_
          refine joinE hb2 [0, 3, 4, 5, 6] (fun x3 => [(47, .one (.p 3 [] 0 0 0)), (48, .one (.v (.int .i64 ((p0[x1.i]'hi1).L[x2.i]'hi2).Id))), (49, .one (.s false 2 (List.map (Stripe.cells false) p0))), (50, .one (.v (.int .i64 (((p0).length : Nat) : Int)))), (51, .one (.v (.int .i64 (spec_StripeOf ((p0[x1.i]'hi1).L[x2.i]'hi2).Id (((p0).length : Nat) : Int))))), (52, .one (.v (.int .i64 ((x1.i : Nat) : Int)))), (53, .one (.v (.bool ((spec_StripeOf ((p0[x1.i]'hi1).L[x2.i]'hi2).Id (((p0).length : Nat) : Int)) != ((x1.i : Nat) : Int))))), (56, .one (.v (.int .i64 ((x2.i : Nat) : Int)))), (57, .one (.v (.bool (decide (((x2.i : Nat) : Int) > 0))))), (58, .one (.v (.bool x3.s.1))), (72, .one (.v (.bool x3.s.2))), (75, .one (.n 1 [] 1 0 (x2.s).length)), (76, .one (.p 3 [] 0 0 1)), (77, .one (.v (.int .i64 ((p0[x1.i]'hi1).L[x2.i]'hi2).Stamp))), (78, .one (.v (.bool (spec_l11Has x2.s ((p0[x1.i]'hi1).L[x2.i]'hi2).Stamp)))), (79, .one (.v (.bool (spec_l11Has x2.s ((p0[x1.i]'hi1).L[x2.i]'hi2).Stamp))))]) (fun x3 => [.dead, .keep 1, .dead, .keep 3]) (fun hb3 => ?_) (fun x3 hb2 => ?_)
          · have hb3 := hb3.trans (spec_StripesOk_j3.eq_1 ..)
            refine .inl ⟨by kernel_rfl, ?_⟩
            refine ⟨_, _, c_spec_TrailOk ((p0[x1.i]'hi1).L[x2.i]'hi2), (FzAs.same _), ?_⟩
            refine brF hb3 (fun hb3 h6 => ?_) (fun hb3 h6 => ?_)
            · refine lenM fun hN7 => ?_
              refine ⟨_, _, c_spec_StripeOf ((p0[x1.i]'hi1).L[x2.i]'hi2).Id (((p0).length : Nat) : Int), (FzAs.same _), ?_⟩
              refine brWF hb3 (fun hb3 h8 => ?_) (fun hb3 h8 => ?_)
              · refine brD hb3 (fun hb3 h9 => ?_) (fun hb3 h9 => ?_)
                · refine idxAt hi1 ?_
                  refine idxOf (l := (p0[x1.i]'hi1).L) (by (first | omega | (simp (disch := omega) only [wrap_small, mid_eq, List.length_map]; omega) | (simp; done) | (simp; omega) | (simp at *; omega) | (simp at *; done) | (simp_all; done) | (simp_all; omega))) (fun hq10 => ?_)
                  refine brDF hb3 (fun hb3 h11 => ?_) (fun hb3 h11 => ?_)
                  · refine ⟨_, _, c_spec_l11Has x2.s ((p0[x1.i]'hi1).L[x2.i]'hi2).Stamp, (FzAs.same _), ?_⟩
                    exact .inl ⟨⟨_, hb3⟩, [none, some 1, none, some 3], ⟨rfl, ⟨⟨rfl, rfl, rfl, rfl⟩, rfl, rfl, rfl, rfl, rfl, rfl, rfl, rfl, rfl, rfl, ⟨rfl, rfl, rfl, rfl, by (first | rfl | omega | (dsimp only; omega) | (simp; done) | (simp; omega) | (simp [LstSt.init, LstSt.step, LstInv.init, CntSt.init, CntSt.step, CntInv.init, WhlSt.init, WhlSt.step]; done) | (simp [LstSt.init, LstSt.step, LstInv.init, CntSt.init, CntSt.step, CntInv.init, WhlSt.init, WhlSt.step]; omega))⟩, ⟨rfl, rfl, rfl, rfl⟩, rfl, rfl, rfl, rfl, ⟨rfl, rfl, rfl, rfl, by (first | rfl | omega | (dsimp only; omega) | (simp; done) | (simp; omega) | (simp [LstSt.init, LstSt.step, LstInv.init, CntSt.init, CntSt.step, CntInv.init, WhlSt.init, WhlSt.step]; done) | (simp [LstSt.init, LstSt.step, LstInv.init, CntSt.init, CntSt.step, CntInv.init, WhlSt.init, WhlSt.step]; omega))⟩, rfl, rfl, ⟨rfl, rfl, rfl, rfl⟩, trivial⟩, ⟨⟨rfl, rfl, rfl⟩, ⟨rfl, rfl, ⟨rfl, rfl, rfl, rfl, trivial⟩⟩, trivial⟩, trivial⟩⟩
                  · refine .inr ?_
                    have hb2 := getD hb2 hb3
                    refine seqE ?_
                    have hb1 := donE hb1 (x2.outD hi2 hb2)
                    have hg := donE hg (x1.outD hi1 hb1)
                    exact leafE hown hg
                · refine ⟨_, _, c_spec_l11Has x2.s ((p0[x1.i]'hi1).L[x2.i]'hi2).Stamp, (FzAs.same _), ?_⟩
                  exact .inl ⟨⟨_, hb3⟩, [none, some 1, none, some 3], ⟨rfl, ⟨⟨rfl, rfl, rfl, rfl⟩, rfl, rfl, rfl, rfl, rfl, rfl, rfl, rfl, rfl, rfl, ⟨rfl, rfl, rfl, rfl, by (first | rfl | omega | (dsimp only; omega) | (simp; done) | (simp; omega) | (simp [LstSt.init, LstSt.step, LstInv.init, CntSt.init, CntSt.step, CntInv.init, WhlSt.init, WhlSt.step]; done) | (simp [LstSt.init, LstSt.step, LstInv.init, CntSt.init, CntSt.step, CntInv.init, WhlSt.init, WhlSt.step]; omega))⟩, ⟨rfl, rfl, rfl, rfl⟩, rfl, rfl, rfl, rfl, ⟨rfl, rfl, rfl, rfl, by (first | rfl | omega | (dsimp only; omega) | (simp; done) | (simp; omega) | (simp [LstSt.init, LstSt.step, LstInv.init, CntSt.init, CntSt.step, CntInv.init, WhlSt.init, WhlSt.step]; done) | (simp [LstSt.init, LstSt.step, LstInv.init, CntSt.init, CntSt.step, CntInv.init, WhlSt.init, WhlSt.step]; omega))⟩, rfl, rfl, ⟨rfl, rfl, rfl, rfl⟩, trivial⟩, ⟨⟨rfl, rfl, rfl⟩, ⟨rfl, rfl, ⟨rfl, rfl, rfl, rfl, trivial⟩⟩, trivial⟩, trivial⟩⟩
              · refine .inr ?_
                have hb2 := getD hb2 hb3
                refine seqE ?_
                have hb1 := donE hb1 (x2.outD hi2 hb2)
                have hg := donE hg (x1.outD hi1 hb1)
                exact leafE hown hg
            · refine .inr ?_
              have hb2 := getD hb2 hb3
              refine seqE ?_
              have hb1 := donE hb1 (x2.outD hi2 hb2)
              have hg := donE hg (x1.outD hi1 hb1)
              exact leafE hown hg
          refine brE hb2 (fun hb2 h12 => ?_) (fun hb2 h12 => ?_)
          · refine seqE ?_
            have hb1 := donE hb1 (x2.outD hi2 hb2)
            have hg := donE hg (x1.outD hi1 hb1)
            exact leafE hown hg
          · refine litE (m := 4) rfl ?_
            refine .inl ?_
            refine rowsE (Y := List.map cInt (x2.s ++ [((p0[x1.i]'hi1).L[x2.i]'hi2).Stamp])) (by first | rfl | (simp [subR0, subR1, -List.map_take, -List.map_drop, take_map', drop_map', fz_cInt, fl_cInt, fzMap fz_cInt, flMap fl_cInt]; done) | (simp [subR0, subR1, -List.map_take, -List.map_drop, take_map', drop_map', fz_cInt, fl_cInt, fzMap fz_cInt, flMap fl_cInt]; rfl)) ?_
            refine appB (b := 8) (hs := by have f1 := hs.1; have f2 := hI2; have f3 := hi1; have f4 := hi2; have f5 : (p0[x1.i]'hi1).L.length ≤ 1048576 := (hs.get hi1).1; refine ⟨?_, ?_⟩; (show List.length _ * 8 ≤ _); (try simp only [List.length_map, List.length_append, List.length_cons, List.length_nil, List.length_take, List.length_drop]); omega; (try simp only [List.length_map, List.length_append, List.length_cons, List.length_nil, List.length_take, List.length_drop]); omega) ?_
            refine litE (m := 5) rfl ?_
            exact x2.goE hi2 hb2 (by have q1 := hI2; simp only [List.length_map, List.length_append, List.length_cons, List.length_nil, List.length_take, List.length_drop]; omega) [none, some 5, none] ⟨rfl, ⟨⟨rfl, rfl, rfl, rfl, by (first | rfl | omega | (dsimp only; omega) | (simp; done) | (simp; omega) | (simp [LstSt.init, LstSt.step, LstInv.init, CntSt.init, CntSt.step, CntInv.init, WhlSt.init, WhlSt.step]; done) | (simp [LstSt.init, LstSt.step, LstInv.init, CntSt.init, CntSt.step, CntInv.init, WhlSt.init, WhlSt.step]; omega))⟩, (eqInt hw2), rfl, rfl, trivial⟩, ⟨⟨rfl, rfl, rfl⟩, trivial⟩, trivial⟩
        have hb1 := finE hb1 (x2.fin hi2)
        exact x1.goE hi1 hb1 (by have f5 : (p0[x1.i]'hi1).L.length ≤ 1048576 := (hs.get hi1).1; have f6 := x2.h; have f7 := hI2; omega) [none, some 1] ⟨rfl, ⟨⟨rfl, rfl, rfl, rfl, by (first | rfl | omega | (dsimp only; omega) | (simp; done) | (simp; omega) | (simp [LstSt.init, LstSt.step, LstInv.init, CntSt.init, CntSt.step, CntInv.init, WhlSt.init, WhlSt.step]; done) | (simp [LstSt.init, LstSt.step, LstInv.init, CntSt.init, CntSt.step, CntInv.init, WhlSt.init, WhlSt.step]; omega))⟩, (eqInt hw1), rfl, trivial⟩, ⟨⟨rfl, rfl, rfl⟩, trivial⟩, trivial⟩
    have hg := finE hg (x1.fin hi1)
    refine seqE ?_
    exact leafE hown hg
def spec_BucketOk (p0 : Bucket) : Bool :=
  (bif (spec_l1In p0.Rate 0 99) then (bif (spec_l1In p0.Burst 0 999) then (bif (spec_l1In p0.Tokens 0 p0.Burst) then (spec_l1In p0.At 0 2147483647) else false) else false) else false)
theorem c_spec_BucketOk (p0 : Bucket) : FnOk prog 52 [.agg (Bucket.cells p0)] ⟨.one (.v (.bool (spec_BucketOk p0))), [], [], false⟩ := by
  refine FnOk.intro (E := env) envOk wide func52 rfl (by kernel_rfl) rfl rfl ?_
  have hg := spec_BucketOk.eq_1 p0
  have hown : ∀ g : Bool, AV.Own (AV.one (.v (.bool g))) := fun g => .v _
  refine seqE ?_
  refine litE (m := 0) rfl ?_
  refine seqE ?_
  refine .inl (⟨_, _, c_spec_l1In p0.Rate 0 99, (FzAs.same _), ?_⟩)
  refine litE (m := 2) rfl ?_
  refine brE hg (fun hg h1 => ?_) (fun hg h1 => leafE hown hg)
  refine .inl (⟨_, _, c_spec_l1In p0.Burst 0 999, (FzAs.same _), ?_⟩)
  refine litE (m := 3) rfl ?_
  refine brE hg (fun hg h2 => ?_) (fun hg h2 => leafE hown hg)
  refine .inl (⟨_, _, c_spec_l1In p0.Tokens 0 p0.Burst, (FzAs.same _), ?_⟩)
  refine litE (m := 4) rfl ?_
  refine brE hg (fun hg h3 => ?_) (fun hg h3 => leafE hown hg)
  refine .inl (⟨_, _, c_spec_l1In p0.At 0 2147483647, (FzAs.same _), ?_⟩)
  refine litE (m := 5) rfl ?_
  exact leafE hown hg
def spec_CacheOk_b2 (p0 : (List Verdict)) (a1 : Verdict) (i2 : Nat) (s2 : Unit) : Step (Unit) (Step (Unit) Bool) :=
  (bif ((p0[i2]?.getD default).Trace == a1.Trace) then (.done (.done false)) else (.next ()))
def spec_CacheOk_b1 (p0 : (List Verdict)) (i1 : Nat) (s1 : Unit) (a1 : Verdict) : Step (Unit) Bool :=
  (bif (!(spec_l1In a1.Trace 1 999)) then (.done false) else (bif (decide (a1.Stamp < 1)) then (.done false) else (Fin.get (fun s2 => (.next ())) (loopC (spec_CacheOk_b2 p0 a1) 0 () i1))))
def spec_CacheOk (p0 : (List Verdict)) (p1 : Int) : Bool :=
  (Fin.get (fun s1 => (decide ((((p0).length : Nat) : Int) ≤ p1))) (loopL (spec_CacheOk_b1 p0) 0 () p0))
theorem c_spec_CacheOk (p0 : (List Verdict)) (p1 : Int) : FnOk prog 53 [.one (.s false 3 (List.map Verdict.cells p0)), .one (.v (.int .i64 p1))] ⟨.one (.v (.bool (spec_CacheOk p0 p1))), [], [], false⟩ := by
  refine FnOk.intro (E := env) envOk wide func53 rfl (by kernel_rfl) rfl rfl ?_
  have hg := spec_CacheOk.eq_1 p0 p1
  have hown : ∀ g : Bool, AV.Own (AV.one (.v (.bool g))) := fun g => .v _
  refine seqE ?_
  refine seqE ?_
  refine seqE ?_
  refine loopLE hg [0, 1] (fun x1 => [(5, .one (.v (.int .i64 ((x1.i : Nat) : Int))))]) (fun x1 => []) [] ?_ (fun x1 => ?_)
  · exact ⟨rfl, ⟨rfl, rfl, rfl, trivial⟩, trivial, trivial⟩
  refine seqE ?_
  refine seqE ?_
  refine lenM fun hN1 => ?_
  refine tstL (fun hi1 => ?_) (fun hi1 => ?_)
  · have hb1 := (x1.bdy hi1).trans (spec_CacheOk_b1.eq_1 ..)
    have hw1 := wrap_succ hi1 (by first | assumption | omega)
    refine seqE ?_
    refine seqE ?_
    refine seqE ?_
    refine idxAt hi1 ?_
    refine .inl (⟨_, _, c_spec_l1In (p0[x1.i]'hi1).Trace 1 999, (FzAs.same _), ?_⟩)
    refine litE (m := 1) rfl ?_
    refine brF hb1 (fun hb1 h2 => ?_) (fun hb1 h2 => ?_)
    · refine idxAt hi1 ?_
      refine brD hb1 (fun hb1 h3 => ?_) (fun hb1 h3 => ?_)
      · refine seqE ?_
        have hg := donE hg (x1.outD hi1 hb1)
        exact leafE hown hg
      · refine seqE ?_
        refine loopCE hb1 [0, 1, 5, 21, 22, 23, 24, 25, 26] (fun x2 => [(6, .one (.v (.int .i64 ((x2.i : Nat) : Int))))]) (fun x2 => [.dead]) [none] ?_ (fun x2 => ?_)
        · exact ⟨rfl, ⟨rfl, rfl, rfl, rfl, rfl, rfl, rfl, rfl, rfl, rfl, trivial⟩, trivial, trivial⟩
        refine seqE ?_
        refine seqE ?_
        refine tstL (fun hi2 => ?_) (fun hi2 => ?_)
        · have hb2 := (x2.bdy hi2).trans (spec_CacheOk_b2.eq_1 ..)
          have hw2 := wrap_succ hi2 (by first | assumption | omega)
          refine seqE ?_
          refine seqE ?_
          refine .inl ⟨by kernel_rfl, ?_⟩
          refine idxOf (l := p0) (by (first | omega | (simp (disch := omega) only [wrap_small, mid_eq, List.length_map]; omega) | (simp; done) | (simp; omega) | (simp at *; omega) | (simp at *; done) | (simp_all; done) | (simp_all; omega))) (fun hq4 => ?_)
          refine idxAt hi1 ?_
          refine brQ hb2 (fun hb2 h5 => ?_) (fun hb2 h5 => x2.goE hi2 hb2 [none] ⟨rfl, ⟨(eqInt hw2), rfl, rfl, rfl, rfl, rfl, rfl, rfl, rfl, rfl, trivial⟩, trivial, trivial⟩)
          refine seqE ?_
          have hb1 := donE hb1 (x2.outD hi2 hb2)
          have hg := donE hg (x1.outD hi1 hb1)
          exact leafE hown hg
        have hb1 := finE hb1 (x2.fin hi2)
        exact x1.goE hi1 hb1 [] ⟨rfl, ⟨(eqInt hw1), rfl, rfl, trivial⟩, trivial, trivial⟩
    · refine seqE ?_
      have hg := donE hg (x1.outD hi1 hb1)
      exact leafE hown hg
  have hg := finE hg (x1.fin hi1)
  refine seqE ?_
  refine lenM fun hN6 => ?_
  exact leafE hown hg
def spec_TotalOf_b1 (i1 : Nat) (s1 : Int) (a1 : Span) : Step (Int) Int :=
  (.next (IntKind.i64.wrap (s1 + (spec_SizeOf a1))))
def spec_TotalOf (p0 : (List Span)) : Int :=
  (Fin.get (fun s1 => s1) (loopL spec_TotalOf_b1 0 0 p0))
theorem c_spec_TotalOf (p0 : (List Span)) : FnOk prog 129 [.one (.s false 6 (List.map (Span.cells false) p0))] ⟨.one (.v (.int .i64 (spec_TotalOf p0))), [], [], false⟩ := by
  refine FnOk.intro (E := env) envOk wide func129 rfl (by kernel_rfl) rfl rfl ?_
  have hg := spec_TotalOf.eq_1 p0
  have hown : ∀ g : Int, AV.Own (AV.one (.v (.int .i64 g))) := fun g => .v _
  refine seqE ?_
  refine seqE ?_
  refine seqE ?_
  refine seqE ?_
  refine loopLE hg [0] (fun x1 => [(3, .one (.v (.int .i64 x1.s))), (4, .one (.v (.int .i64 ((x1.i : Nat) : Int))))]) (fun x1 => []) [] ?_ (fun x1 => ?_)
  · exact ⟨rfl, ⟨rfl, rfl, rfl, trivial⟩, trivial, trivial⟩
  refine seqE ?_
  refine seqE ?_
  refine lenM fun hN1 => ?_
  refine tstL (fun hi1 => ?_) (fun hi1 => ?_)
  · have hb1 := (x1.bdy hi1).trans (spec_TotalOf_b1.eq_1 ..)
    have hw1 := wrap_succ hi1 (by first | assumption | omega)
    refine seqE ?_
    refine idxAt hi1 ?_
    refine .inl (⟨_, _, c_spec_SizeOf (p0[x1.i]'hi1), (FzAs.same _), ?_⟩)
    refine litE (m := 1) rfl ?_
    exact x1.goE hi1 hb1 [] ⟨rfl, ⟨rfl, (eqInt hw1), rfl, trivial⟩, trivial, trivial⟩
  have hg := finE hg (x1.fin hi1)
  refine seqE ?_
  exact leafE hown hg
def spec_BytesOf (p0 : Trail) : Int :=
  (spec_TotalOf p0.Spans)
theorem c_spec_BytesOf (p0 : Trail) : FnOk prog 90 [.agg ((Trail.cells false) p0)] ⟨.one (.v (.int .i64 (spec_BytesOf p0))), [], [], false⟩ := by
  refine FnOk.intro (E := env) envOk wide func90 rfl (by kernel_rfl) rfl rfl ?_
  have hg := spec_BytesOf.eq_1 p0
  have hown : ∀ g : Int, AV.Own (AV.one (.v (.int .i64 g))) := fun g => .v _
  refine seqE ?_
  refine litE (m := 0) rfl ?_
  refine seqE ?_
  refine .inl (⟨_, _, c_spec_TotalOf p0.Spans, (FzAs.same _), ?_⟩)
  refine litE (m := 2) rfl ?_
  exact leafE hown hg
def spec_HeldBytes_b2 (i2 : Nat) (s2 : Int) (a2 : Trail) : Step (Int) (Step (Int) Int) :=
  (.next (IntKind.i64.wrap (s2 + (spec_BytesOf a2))))
def spec_HeldBytes_b1 (i1 : Nat) (s1 : Int) (a1 : Stripe) : Step (Int) Int :=
  (Fin.get (fun s2 => (.next s2)) (loopL spec_HeldBytes_b2 0 s1 a1.L))
def spec_HeldBytes (p0 : (List Stripe)) : Int :=
  (Fin.get (fun s1 => s1) (loopL spec_HeldBytes_b1 0 0 p0))
theorem c_spec_HeldBytes (p0 : (List Stripe)) : FnOk prog 54 [.one (.s false 2 (List.map (Stripe.cells false) p0))] ⟨.one (.v (.int .i64 (spec_HeldBytes p0))), [], [], false⟩ := by
  refine FnOk.intro (E := env) envOk wide func54 rfl (by kernel_rfl) rfl rfl ?_
  have hg := spec_HeldBytes.eq_1 p0
  have hown : ∀ g : Int, AV.Own (AV.one (.v (.int .i64 g))) := fun g => .v _
  refine seqE ?_
  refine seqE ?_
  refine seqE ?_
  refine seqE ?_
  refine loopLE hg [0] (fun x1 => [(3, .one (.v (.int .i64 x1.s))), (4, .one (.v (.int .i64 ((x1.i : Nat) : Int))))]) (fun x1 => []) [] ?_ (fun x1 => ?_)
  · exact ⟨rfl, ⟨rfl, rfl, rfl, trivial⟩, trivial, trivial⟩
  refine seqE ?_
  refine seqE ?_
  refine lenM fun hN1 => ?_
  refine tstL (fun hi1 => ?_) (fun hi1 => ?_)
  · have hb1 := (x1.bdy hi1).trans (spec_HeldBytes_b1.eq_1 ..)
    have hw1 := wrap_succ hi1 (by first | assumption | omega)
    refine seqE ?_
    refine seqE ?_
    refine loopLE hb1 [0, 4] (fun x2 => [(3, .one (.v (.int .i64 x2.s))), (5, .one (.v (.int .i64 ((x2.i : Nat) : Int))))]) (fun x2 => []) [] ?_ (fun x2 => ?_)
    · exact ⟨rfl, ⟨rfl, rfl, rfl, rfl, trivial⟩, trivial, trivial⟩
    refine seqE ?_
    refine seqE ?_
    refine idxAt hi1 ?_
    refine lenM fun hN2 => ?_
    refine tstL (fun hi2 => ?_) (fun hi2 => ?_)
    · have hb2 := (x2.bdy hi2).trans (spec_HeldBytes_b2.eq_1 ..)
      have hw2 := wrap_succ hi2 (by first | assumption | omega)
      refine seqE ?_
      refine idxAt hi1 ?_
      refine idxAt hi2 ?_
      refine .inl (⟨_, _, c_spec_BytesOf ((p0[x1.i]'hi1).L[x2.i]'hi2), (FzAs.same _), ?_⟩)
      refine litE (m := 1) rfl ?_
      exact x2.goE hi2 hb2 [] ⟨rfl, ⟨rfl, (eqInt hw2), rfl, rfl, trivial⟩, trivial, trivial⟩
    have hb1 := finE hb1 (x2.fin hi2)
    exact x1.goE hi1 hb1 [] ⟨rfl, ⟨rfl, (eqInt hw1), rfl, trivial⟩, trivial, trivial⟩
  have hg := finE hg (x1.fin hi1)
  refine seqE ?_
  exact leafE hown hg
def spec_l8Place (p0 : Int) (p1 : Int) : Int × Int :=
  (bif ((IntKind.i64.wrap (Int.tdiv p1 8)) == (IntKind.i64.wrap (Int.tdiv p0 8))) then (1, (Int.tmod p1 8)) else (bif (decide ((IntKind.i64.wrap ((IntKind.i64.wrap (Int.tdiv p1 8)) - (IntKind.i64.wrap (Int.tdiv p0 8)))) < 8)) then (2, (Int.tmod (IntKind.i64.wrap (Int.tdiv p1 8)) 8)) else (3, 0)))
theorem c_spec_l8Place (p0 : Int) (p1 : Int) : FnOk prog 130 [.one (.v (.int .i64 p0)), .one (.v (.int .i64 p1))] ⟨.tup [.one (.v (.int .i64 (spec_l8Place p0 p1).1)), .one (.v (.int .i64 (spec_l8Place p0 p1).2))], [], [], false⟩ := by
  refine FnOk.intro (E := env) envOk wide func130 rfl (by kernel_rfl) rfl rfl ?_
  have hg := spec_l8Place.eq_1 p0 p1
  have hown : ∀ g : Int × Int, AV.Own (AV.tup [.one (.v (.int .i64 g.1)), .one (.v (.int .i64 g.2))]) := fun g => ⟨.v _, .v _, trivial⟩
  refine seqE ?_
  refine seqE ?_
  refine seqE ?_
  refine andE (by (first | omega | (simp (disch := omega) only [wrap_small, mid_eq, List.length_map]; omega) | (simp; done) | (simp; omega) | (simp at *; omega) | (simp at *; done) | (simp_all; done) | (simp_all; omega))) ?_
  refine andE (by (first | omega | (simp (disch := omega) only [wrap_small, mid_eq, List.length_map]; omega) | (simp; done) | (simp; omega) | (simp at *; omega) | (simp at *; done) | (simp_all; done) | (simp_all; omega))) ?_
  refine brQ hg (fun hg h1 => ?_) (fun hg h1 => ?_)
  · refine seqE ?_
    refine andE (by (first | omega | (simp (disch := omega) only [wrap_small, mid_eq, List.length_map]; omega) | (simp; done) | (simp; omega) | (simp at *; omega) | (simp at *; done) | (simp_all; done) | (simp_all; omega))) ?_
    exact leafE hown hg
  · refine seqE ?_
    refine seqE ?_
    refine andE (by (first | omega | (simp (disch := omega) only [wrap_small, mid_eq, List.length_map]; omega) | (simp; done) | (simp; omega) | (simp at *; omega) | (simp at *; done) | (simp_all; done) | (simp_all; omega))) ?_
    refine andE (by (first | omega | (simp (disch := omega) only [wrap_small, mid_eq, List.length_map]; omega) | (simp; done) | (simp; omega) | (simp at *; omega) | (simp at *; done) | (simp_all; done) | (simp_all; omega))) ?_
    refine brD hg (fun hg h2 => ?_) (fun hg h2 => ?_)
    · refine seqE ?_
      refine andE (by (first | omega | (simp (disch := omega) only [wrap_small, mid_eq, List.length_map]; omega) | (simp; done) | (simp; omega) | (simp at *; omega) | (simp at *; done) | (simp_all; done) | (simp_all; omega))) ?_
      refine andE (by (first | omega | (simp (disch := omega) only [wrap_small, mid_eq, List.length_map]; omega) | (simp; done) | (simp; omega) | (simp at *; omega) | (simp at *; done) | (simp_all; done) | (simp_all; omega))) ?_
      exact leafE hown hg
    · refine seqE ?_
      exact leafE hown hg
def spec_l8Slot_b1 (p0 : Wheel) (p2 : Int) (p3 : Int) (i1 : Nat) (s1 : Unit) (a1 : Timer) : Step (Unit) Bool :=
  (bif (decide (a1.Id < 1)) then (.done false) else (bif (!(spec_l1In a1.Trace 1 999)) then (.done false) else (bif (!(spec_l1In a1.At (IntKind.i64.wrap (p0.Now + 1)) 2147483647)) then (.done false) else (bif ((spec_l8Place p0.Now a1.At).1 != p2) then (.done false) else (bif ((spec_l8Place p0.Now a1.At).2 != p3) then (.done false) else (.next ()))))))
def spec_l8Slot (p0 : Wheel) (p1 : (List Timer)) (p2 : Int) (p3 : Int) : Bool :=
  (Fin.get (fun s1 => true) (loopL (spec_l8Slot_b1 p0 p2 p3) 0 () p1))
theorem c_spec_l8Slot (p0 : Wheel) (p1 : (List Timer)) (p2 : Int) (p3 : Int) : FnOk prog 91 [.agg ((Wheel.cells false) p0), .one (.s false 3 (List.map Timer.cells p1)), .one (.v (.int .i64 p2)), .one (.v (.int .i64 p3))] ⟨.one (.v (.bool (spec_l8Slot p0 p1 p2 p3))), [], [], false⟩ := by
  refine FnOk.intro (E := env) envOk wide func91 rfl (by kernel_rfl) rfl rfl ?_
  have hg := spec_l8Slot.eq_1 p0 p1 p2 p3
  have hown : ∀ g : Bool, AV.Own (AV.one (.v (.bool g))) := fun g => .v _
  refine seqE ?_
  refine litE (m := 0) rfl ?_
  refine seqE ?_
  refine seqE ?_
  refine loopLE hg [1, 2, 3, 4] (fun x1 => [(9, .one (.v (.int .i64 ((x1.i : Nat) : Int))))]) (fun x1 => [.keep 0]) [some 0] ?_ (fun x1 => ?_)
  · exact ⟨rfl, ⟨rfl, rfl, rfl, rfl, ⟨rfl, rfl, rfl, rfl⟩, trivial⟩, ⟨⟨rfl, rfl, ⟨rfl, rfl, rfl, rfl, trivial⟩⟩, trivial⟩, trivial⟩
  refine seqE ?_
  refine seqE ?_
  refine lenM fun hN1 => ?_
  refine tstL (fun hi1 => ?_) (fun hi1 => ?_)
  · have hb1 := (x1.bdy hi1).trans (spec_l8Slot_b1.eq_1 ..)
    have hw1 := wrap_succ hi1 (by first | assumption | omega)
    refine seqE ?_
    refine seqE ?_
    refine idxAt hi1 ?_
    refine litE (m := 1) rfl ?_
    refine seqE ?_
    refine seqE ?_
    refine brDF hb1 (fun hb1 h2 => ?_) (fun hb1 h2 => ?_)
    · refine .inl (⟨_, _, c_spec_l1In (p1[x1.i]'hi1).Trace 1 999, (FzAs.same _), ?_⟩)
      refine litE (m := 3) rfl ?_
      refine brF hb1 (fun hb1 h3 => ?_) (fun hb1 h3 => ?_)
      · refine .inl (⟨_, _, c_spec_l1In (p1[x1.i]'hi1).At (IntKind.i64.wrap (p0.Now + 1)) 2147483647, (FzAs.same _), ?_⟩)
        refine litE (m := 4) rfl ?_
        refine brE hb1 (fun hb1 h4 => ?_) (fun hb1 h4 => ?_)
        · refine seqE ?_
          have hg := donE hg (x1.outD hi1 hb1)
          exact leafE hown hg
        · refine seqE ?_
          refine .inl (⟨_, _, c_spec_l8Place p0.Now (p1[x1.i]'hi1).At, (FzAs.same _), ?_⟩)
          refine litE (m := 5) rfl ?_
          refine seqE ?_
          refine brWF hb1 (fun hb1 h5 => ?_) (fun hb1 h5 => ?_)
          · refine brW hb1 (fun hb1 h6 => ?_) (fun hb1 h6 => x1.goE hi1 hb1 [some 0] ⟨rfl, ⟨(eqInt hw1), rfl, rfl, rfl, ⟨rfl, rfl, rfl, rfl⟩, trivial⟩, ⟨⟨rfl, rfl, ⟨rfl, rfl, rfl, rfl, trivial⟩⟩, trivial⟩, trivial⟩)
            refine seqE ?_
            have hg := donE hg (x1.outD hi1 hb1)
            exact leafE hown hg
          · refine seqE ?_
            have hg := donE hg (x1.outD hi1 hb1)
            exact leafE hown hg
      · refine seqE ?_
        have hg := donE hg (x1.outD hi1 hb1)
        exact leafE hown hg
    · refine seqE ?_
      have hg := donE hg (x1.outD hi1 hb1)
      exact leafE hown hg
  have hg := finE hg (x1.fin hi1)
  refine seqE ?_
  exact leafE hown hg
def spec_Timers_b2 (i2 : Nat) (s2 : (List Timer)) (a2 : (List Timer)) : Step ((List Timer)) (List Timer) :=
  (.next (s2 ++ a2))
def spec_Timers_b1 (i1 : Nat) (s1 : (List Timer)) (a1 : (List Timer)) : Step ((List Timer)) (List Timer) :=
  (.next (s1 ++ a1))
def spec_Timers (p0 : Wheel) : (List Timer) :=
  (Fin.get (fun s1 => (Fin.get (fun s2 => (s2 ++ p0.Rest)) (loopL spec_Timers_b2 0 s1 p0.Far))) (loopL spec_Timers_b1 0 ([] : List Timer) p0.Near))
theorem c_spec_Timers (p0 : Wheel) (hs : Wheel.bd 1048576 p0) : FnOk prog 56 [.agg ((Wheel.cells false) p0)] ⟨.one (.s true 3 (List.map Timer.cells (spec_Timers p0))), [], [], false⟩ := by
  refine FnOk.intro (E := env) envOk wide func56 rfl (by kernel_rfl) rfl rfl ?_
  have hg := spec_Timers.eq_1 p0
  have hown : ∀ g : (List Timer), AV.Own (AV.one (.s true 3 (List.map Timer.cells g))) := fun g => ownSl own_Timer _
  refine seqE ?_
  refine litE (m := 0) rfl ?_
  refine seqE ?_
  refine litE (m := 1) rfl ?_
  refine seqE ?_
  refine seqE ?_
  refine loopLI (fun i s => s.length ≤ 1048576 * i) hg (by show 0 ≤ _; omega) [1] (fun x1 => [(3, .one (.n 1 [] 1 0 (x1.s).length)), (4, .one (.v (.int .i64 ((x1.i : Nat) : Int))))]) (fun x1 => [.keep 0, .new ⟨3, false, List.map Timer.cells x1.s, 0⟩]) [some 0, some 1] ?_ (fun x1 => ?_)
  · exact ⟨rfl, ⟨⟨rfl, rfl, rfl, rfl, by (first | rfl | omega | (dsimp only; omega) | (simp; done) | (simp; omega) | (simp [LstSt.init, LstSt.step, LstInv.init, CntSt.init, CntSt.step, CntInv.init, WhlSt.init, WhlSt.step]; done) | (simp [LstSt.init, LstSt.step, LstInv.init, CntSt.init, CntSt.step, CntInv.init, WhlSt.init, WhlSt.step]; omega))⟩, rfl, ⟨rfl, rfl, rfl, rfl⟩, trivial⟩, ⟨⟨rfl, rfl, ⟨rfl, rfl, rfl, rfl, trivial⟩⟩, ⟨rfl, rfl, rfl⟩, trivial⟩, trivial⟩
  have hI1 : List.length x1.s ≤ 1048576 * x1.i := by simpa using x1.hI
  refine seqE ?_
  refine seqE ?_
  refine lenM fun hN1 => ?_
  refine tstL (fun hi1 => ?_) (fun hi1 => ?_)
  · have hb1 := (x1.bdy hi1).trans (spec_Timers_b1.eq_1 ..)
    have hw1 := wrap_succ hi1 (by first | assumption | omega)
    refine seqE ?_
    refine idxAt hi1 ?_
    refine .inl ?_
    refine rowsE (Y := List.map Timer.cells (x1.s ++ (p0.Near[x1.i]'hi1))) (by first | rfl | (simp [subR0, subR1, -List.map_take, -List.map_drop, take_map', drop_map', fz_Timer, fl_Timer, fzMap fz_Timer, flMap fl_Timer]; done) | (simp [subR0, subR1, -List.map_take, -List.map_drop, take_map', drop_map', fz_Timer, fl_Timer, fzMap fz_Timer, flMap fl_Timer]; rfl)) ?_
    refine appB (b := 24) (hs := by have hl := hs.1.1; have hl2 := hs.2.1.1; have hl3 := hs.2.2.1; (try have hq := (hs.1.get hi1).1); (try have hq := (hs.2.1.get hi2).1); (try have hq3 := x2.h); refine ⟨?_, ?_⟩; (show List.length _ * 24 ≤ _); (try simp only [List.length_map, List.length_append, List.length_cons, List.length_nil]); omega; (try simp only [List.length_map, List.length_append, List.length_cons, List.length_nil]); omega) ?_
    refine litE (m := 2) rfl ?_
    exact x1.goE hi1 hb1 (by have hq := (hs.1.get hi1).1; show List.length (_ ++ _) ≤ _; rw [List.length_append]; omega) [some 0, some 2] ⟨rfl, ⟨⟨rfl, rfl, rfl, rfl, by (first | rfl | omega | (dsimp only; omega) | (simp; done) | (simp; omega) | (simp [LstSt.init, LstSt.step, LstInv.init, CntSt.init, CntSt.step, CntInv.init, WhlSt.init, WhlSt.step]; done) | (simp [LstSt.init, LstSt.step, LstInv.init, CntSt.init, CntSt.step, CntInv.init, WhlSt.init, WhlSt.step]; omega))⟩, (eqInt hw1), ⟨rfl, rfl, rfl, rfl⟩, trivial⟩, ⟨⟨rfl, rfl, ⟨rfl, rfl, rfl, rfl, trivial⟩⟩, ⟨rfl, rfl, rfl⟩, trivial⟩, trivial⟩
  have hg := finE hg (x1.fin hi1)
  refine seqE ?_
  refine seqE ?_
  refine loopLI (fun i s => s.length ≤ 1099511627776 + 1048576 * i) hg (by have hq := x1.h; have hq2 := hs.1.1; show List.length x1.s ≤ _; omega) [1] (fun x2 => [(3, .one (.n 1 [] 1 0 (x2.s).length)), (5, .one (.v (.int .i64 ((x2.i : Nat) : Int))))]) (fun x2 => [.keep 0, .new ⟨3, false, List.map Timer.cells x2.s, 0⟩]) [some 0, some 1] ?_ (fun x2 => ?_)
  · exact ⟨rfl, ⟨⟨rfl, rfl, rfl, rfl, by (first | rfl | omega | (dsimp only; omega) | (simp; done) | (simp; omega) | (simp [LstSt.init, LstSt.step, LstInv.init, CntSt.init, CntSt.step, CntInv.init, WhlSt.init, WhlSt.step]; done) | (simp [LstSt.init, LstSt.step, LstInv.init, CntSt.init, CntSt.step, CntInv.init, WhlSt.init, WhlSt.step]; omega))⟩, rfl, ⟨rfl, rfl, rfl, rfl⟩, trivial⟩, ⟨⟨rfl, rfl, ⟨rfl, rfl, rfl, rfl, trivial⟩⟩, ⟨rfl, rfl, rfl⟩, trivial⟩, trivial⟩
  have hI2 : List.length x2.s ≤ 1099511627776 + 1048576 * x2.i := by simpa using x2.hI
  refine seqE ?_
  refine seqE ?_
  refine lenM fun hN2 => ?_
  refine tstL (fun hi2 => ?_) (fun hi2 => ?_)
  · have hb2 := (x2.bdy hi2).trans (spec_Timers_b2.eq_1 ..)
    have hw2 := wrap_succ hi2 (by first | assumption | omega)
    refine seqE ?_
    refine idxAt hi2 ?_
    refine .inl ?_
    refine rowsE (Y := List.map Timer.cells (x2.s ++ (p0.Far[x2.i]'hi2))) (by first | rfl | (simp [subR0, subR1, -List.map_take, -List.map_drop, take_map', drop_map', fz_Timer, fl_Timer, fzMap fz_Timer, flMap fl_Timer]; done) | (simp [subR0, subR1, -List.map_take, -List.map_drop, take_map', drop_map', fz_Timer, fl_Timer, fzMap fz_Timer, flMap fl_Timer]; rfl)) ?_
    refine appB (b := 24) (hs := by have hl := hs.1.1; have hl2 := hs.2.1.1; have hl3 := hs.2.2.1; (try have hq := (hs.1.get hi1).1); (try have hq := (hs.2.1.get hi2).1); (try have hq3 := x2.h); refine ⟨?_, ?_⟩; (show List.length _ * 24 ≤ _); (try simp only [List.length_map, List.length_append, List.length_cons, List.length_nil]); omega; (try simp only [List.length_map, List.length_append, List.length_cons, List.length_nil]); omega) ?_
    refine litE (m := 2) rfl ?_
    exact x2.goE hi2 hb2 (by have hq := (hs.2.1.get hi2).1; show List.length (_ ++ _) ≤ _; rw [List.length_append]; omega) [some 0, some 2] ⟨rfl, ⟨⟨rfl, rfl, rfl, rfl, by (first | rfl | omega | (dsimp only; omega) | (simp; done) | (simp; omega) | (simp [LstSt.init, LstSt.step, LstInv.init, CntSt.init, CntSt.step, CntInv.init, WhlSt.init, WhlSt.step]; done) | (simp [LstSt.init, LstSt.step, LstInv.init, CntSt.init, CntSt.step, CntInv.init, WhlSt.init, WhlSt.step]; omega))⟩, (eqInt hw2), ⟨rfl, rfl, rfl, rfl⟩, trivial⟩, ⟨⟨rfl, rfl, ⟨rfl, rfl, rfl, rfl, trivial⟩⟩, ⟨rfl, rfl, rfl⟩, trivial⟩, trivial⟩
  have hg := finE hg (x2.fin hi2)
  refine seqE ?_
  refine .inl ?_
  refine rowsE (Y := List.map Timer.cells (x2.s ++ p0.Rest)) (by first | rfl | (simp [subR0, subR1, -List.map_take, -List.map_drop, take_map', drop_map', fz_Timer, fl_Timer, fzMap fz_Timer, flMap fl_Timer]; done) | (simp [subR0, subR1, -List.map_take, -List.map_drop, take_map', drop_map', fz_Timer, fl_Timer, fzMap fz_Timer, flMap fl_Timer]; rfl)) ?_
  refine appB (b := 24) (hs := by have hl := hs.1.1; have hl2 := hs.2.1.1; have hl3 := hs.2.2.1; (try have hq := (hs.1.get hi1).1); (try have hq := (hs.2.1.get hi2).1); (try have hq3 := x2.h); refine ⟨?_, ?_⟩; (show List.length _ * 24 ≤ _); (try simp only [List.length_map, List.length_append, List.length_cons, List.length_nil]); omega; (try simp only [List.length_map, List.length_append, List.length_cons, List.length_nil]); omega) ?_
  refine litE (m := 2) rfl ?_
  exact leafE hown hg
theorem spec_Timers_eq (w : Wheel) : spec_Timers w = w.Near.flatMap id ++ w.Far.flatMap id ++ w.Rest := by
  unfold spec_Timers
  rw [app_flat (b := spec_Timers_b1) id (fun _ _ _ => rfl), Fin.get_fin, app_flat (b := spec_Timers_b2) id (fun _ _ _ => rfl), Fin.get_fin]
  simp
theorem spec_Timers_len (w : Wheel) (hs : Wheel.bd 1048576 w) : (spec_Timers w).length ≤ 2199024304128 := by
  rw [spec_Timers_eq]
  have h1 := flat_len' id 1048576 w.Near (fun a ha => (hs.1.2 a ha).1)
  have h2 := flat_len' id 1048576 w.Far (fun a ha => (hs.2.1.2 a ha).1)
  have h3 : w.Near.length ≤ 1048576 := hs.1.1
  have h4 : w.Far.length ≤ 1048576 := hs.2.1.1
  have h5 : w.Rest.length ≤ 1048576 := hs.2.2.1
  simp only [List.length_append]
  omega
def spec_WheelOk_b3 (p0 : Wheel) (a2 : Timer) (i3 : Nat) (s3 : Unit) : Step (Unit) (Step (Unit) Bool) :=
  (bif (((spec_Timers p0)[i3]?.getD default).Id == a2.Id) then (.done (.done false)) else (.next ()))
def spec_WheelOk_b2 (p0 : Wheel) (i2 : Nat) (s2 : Unit) (a2 : Timer) : Step (Unit) Bool :=
  (Fin.get (fun s3 => (.next ())) (loopC (spec_WheelOk_b3 p0 a2) 0 () i2))
def spec_WheelOk_b1 (p0 : Wheel) (i1 : Nat) (s1 : Unit) : Step (Unit) Bool :=
  (bif (!(spec_l8Slot p0 (p0.Near[i1]?.getD default) 1 ((i1 : Nat) : Int))) then (.done false) else (bif (!(spec_l8Slot p0 (p0.Far[i1]?.getD default) 2 ((i1 : Nat) : Int))) then (.done false) else (.next ())))
def spec_WheelOk (p0 : Wheel) : Bool :=
  (bif ((((p0.Near).length : Nat) : Int) != 8) then false else (bif ((((p0.Far).length : Nat) : Int) != 8) then false else (bif (!(spec_l1In p0.Now 0 2147483647)) then false else (bif (!(spec_l8Slot p0 p0.Rest 3 0)) then false else (Fin.get (fun s1 => (Fin.get (fun s2 => (decide (((((spec_Timers p0)).length : Nat) : Int) ≤ 16))) (loopL (spec_WheelOk_b2 p0) 0 () (spec_Timers p0)))) (loopC (spec_WheelOk_b1 p0) 0 () ((8 : Int)).toNat))))))
end Go.Proofs.Tryz.Ev
