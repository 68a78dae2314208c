import Derived.Test.YtalbniledlbogaaLTabsSent
import Derived.Test.YtalbniledlbogaaEvCnt
import Derived.Test.YtalbniledlbogaaEvS
set_option linter.unusedSectionVars false
namespace Go.Proofs.Try.Ev
open Go Go.Ev Go.Proofs
set_option maxHeartbeats 4000000
set_option maxRecDepth 100000
set_option linter.unusedSimpArgs false
set_option linter.unusedVariables false
set_option linter.unusedSectionVars false
structure Pol where
  Kind : Int
  N : Int
  Key : ByteArray
  Text : ByteArray
  L : (List Pol)
instance : Inhabited Pol := ⟨⟨0, 0, ByteArray.empty, ByteArray.empty, []⟩⟩
mutual
def Pol.dep : Pol → Nat
  | ⟨y0, y1, y2, y3, y4⟩ => Pol.depL y4 + 1
def Pol.depL : List Pol → Nat
  | [] => 0
  | p :: l => max (Pol.dep p) (Pol.depL l)
end
theorem Pol.depL_mem : ∀ {l : List Pol} {x : Pol}, x ∈ l → Pol.dep x ≤ Pol.depL l
  | p :: l, x, h => by
    simp only [Pol.depL]
    rcases List.mem_cons.1 h with rfl | h
    · omega
    · have := Pol.depL_mem h
      omega
theorem Pol.dep_lt {x y : Pol} (h : x ∈ y.L) : Pol.dep x < Pol.dep y := by
  obtain ⟨y0, y1, y2, y3, y4⟩ := y
  have := Pol.depL_mem (l := y4) h
  simp only [Pol.dep]
  omega
mutual
def Pol.cells (o : Bool) : Pol → List T
  | ⟨y0, y1, y2, y3, y4⟩ => [.v (.int .i64 y0), .v (.int .i64 y1), .v (.string y2), .v (.string y3), .s o 5 (Pol.cellsL o y4)]
def Pol.cellsL (o : Bool) : List Pol → List (List T)
  | [] => []
  | p :: l => Pol.cells o p :: Pol.cellsL o l
end
theorem Pol.cellsL_eq (o : Bool) : ∀ l : List Pol, Pol.cellsL o l = List.map (Pol.cells o) l
  | [] => rfl
  | p :: l => by simp only [Pol.cellsL, List.map_cons, Pol.cellsL_eq o l]
def Pol.opn (o : Bool) (x : Pol) : List T := [.v (.int .i64 x.Kind), .v (.int .i64 x.N), .v (.string x.Key), .v (.string x.Text), .s o 5 (List.map (Pol.cells o) x.L)]
theorem Pol.cells_eq (o : Bool) (x : Pol) : Pol.cells o x = Pol.opn o x := by
  obtain ⟨y0, y1, y2, y3, y4⟩ := x
  simp only [Pol.cells, Pol.opn, Pol.cellsL_eq]
theorem own_Pol (x : Pol) : OwnL (Pol.cells true x) := by
  rw [Pol.cells_eq]
  exact ⟨.v _, .v _, .v _, .v _, ownSlM (fun x hx => own_Pol x), trivial⟩
termination_by Pol.dep x
decreasing_by exact Pol.dep_lt hx
theorem ownO_Pol (x : Pol) : OwnL (Pol.opn true x) := by
  rw [← Pol.cells_eq]; exact own_Pol x
theorem frz_Pol {o : Bool} (x : Pol) : frzL (Pol.cells o x) = Pol.cells false x := by
  rw [Pol.cells_eq, Pol.cells_eq]
  show [T.v (.int .i64 x.Kind), T.v (.int .i64 x.N), T.v (.string x.Key), T.v (.string x.Text), T.s false 5 (frzLL (List.map (Pol.cells o) x.L))] = _
  rw [frzMapM (f := Pol.cells o) (g := Pol.cells false) (fun y hy => frz_Pol y)]
  rfl
termination_by Pol.dep x
decreasing_by exact Pol.dep_lt hy
theorem frzO_Pol {o : Bool} (x : Pol) : frzL (Pol.opn o x) = Pol.opn false x := by
  rw [← Pol.cells_eq, ← Pol.cells_eq]; exact frz_Pol x
theorem sh_Pol (x : Pol) : (Pol.cells false x).map T.sh = Pol.cells false x := by rw [Pol.cells_eq]; rfl
theorem fz_Pol {o : Bool} (x : Pol) : (Pol.cells o x).map T.fz = Pol.cells false x := by
  rw [Pol.cells_eq, Pol.cells_eq]
  show [T.v (.int .i64 x.Kind), T.v (.int .i64 x.N), T.v (.string x.Key), T.v (.string x.Text), T.s false 5 (frzLL (List.map (Pol.cells o) x.L))] = _
  rw [frzMap (f := Pol.cells o) (g := Pol.cells false) frz_Pol]
  rfl
mutual
def Pol.bd (M : Nat) : Pol → Prop
  | ⟨y0, y1, y2, y3, y4⟩ => y2.size ≤ M ∧ y3.size ≤ M ∧ (y4.length ≤ M ∧ Pol.bdL M y4)
def Pol.bdL (M : Nat) : List Pol → Prop
  | [] => True
  | p :: l => Pol.bd M p ∧ Pol.bdL M l
end
theorem Pol.bdL_iff {M : Nat} : ∀ {l : List Pol}, Pol.bdL M l ↔ ∀ x ∈ l, Pol.bd M x
  | [] => by simp [Pol.bdL]
  | p :: l => by simp [Pol.bdL, Pol.bdL_iff (l := l)]
theorem Pol.bd_eq {M : Nat} {x : Pol} : Pol.bd M x ↔ x.Key.size ≤ M ∧ x.Text.size ≤ M ∧ bdS Pol.bd M x.L := by
  obtain ⟨y0, y1, y2, y3, y4⟩ := x
  simp only [Pol.bd, bdS, Pol.bdL_iff]
structure Conf where
  Stripes : Int
  Wait : Int
  Budget : Int
  Cache : Int
  Queue : Int
  Rate : Int
  Burst : Int
  Rule : Pol
deriving Inhabited
def Conf.cells (o : Bool) (x : Conf) : List T := [.v (.int .i64 x.Stripes), .v (.int .i64 x.Wait), .v (.int .i64 x.Budget), .v (.int .i64 x.Cache), .v (.int .i64 x.Queue), .v (.int .i64 x.Rate), .v (.int .i64 x.Burst), .v (.int .i64 x.Rule.Kind), .v (.int .i64 x.Rule.N), .v (.string x.Rule.Key), .v (.string x.Rule.Text), .s o 5 (List.map (Pol.cells o) x.Rule.L)]
theorem own_Conf (x : Conf) : OwnL (Conf.cells true x) := ⟨.v _, .v _, .v _, .v _, .v _, .v _, .v _, .v _, .v _, .v _, .v _, ownSl own_Pol _, trivial⟩
theorem frz_Conf {o : Bool} (x : Conf) : frzL (Conf.cells o x) = Conf.cells false x := by
  show [T.v (.int .i64 x.Stripes), T.v (.int .i64 x.Wait), T.v (.int .i64 x.Budget), T.v (.int .i64 x.Cache), T.v (.int .i64 x.Queue), T.v (.int .i64 x.Rate), T.v (.int .i64 x.Burst), T.v (.int .i64 x.Rule.Kind), T.v (.int .i64 x.Rule.N), T.v (.string x.Rule.Key), T.v (.string x.Rule.Text), T.s false 5 (frzLL (List.map (Pol.cells o) x.Rule.L))] = _
  rw [frzMap (f := (Pol.cells o)) (g := (Pol.cells false)) frz_Pol x.Rule.L]
  rfl
theorem sh_Conf (x : Conf) : (Conf.cells false x).map T.sh = Conf.cells false x := rfl
theorem fz_Conf {o : Bool} (x : Conf) : (Conf.cells o x).map T.fz = Conf.cells false x := by
  show [T.v (.int .i64 x.Stripes), T.v (.int .i64 x.Wait), T.v (.int .i64 x.Budget), T.v (.int .i64 x.Cache), T.v (.int .i64 x.Queue), T.v (.int .i64 x.Rate), T.v (.int .i64 x.Burst), T.v (.int .i64 x.Rule.Kind), T.v (.int .i64 x.Rule.N), T.v (.string x.Rule.Key), T.v (.string x.Rule.Text), T.s false 5 (frzLL (List.map (Pol.cells o) x.Rule.L))] = _
  rw [frzMap (f := (Pol.cells o)) (g := (Pol.cells false)) frz_Pol x.Rule.L]
  rfl
def Conf.bd (M : Nat) (x : Conf) : Prop := Pol.bd M x.Rule
def Conf.rg (x : Conf) : Prop := I64 x.Stripes ∧ I64 x.Wait ∧ I64 x.Budget ∧ I64 x.Cache ∧ I64 x.Queue ∧ I64 x.Rate ∧ I64 x.Burst ∧ I64 x.Rule.Kind ∧ I64 x.Rule.N ∧ (x.Rule.Key).size ≤ 9223372036854775807 ∧ (x.Rule.Text).size ≤ 9223372036854775807 ∧ ((x.Rule.L).length ≤ 9223372036854775807 ∧ ∀ y ∈ x.Rule.L, True) ∧ True
theorem rg_Conf {o : Bool} {x : Conf} (h : fitL (Conf.cells o x)) : Conf.rg x := ⟨(range_of_fit h.1), (range_of_fit h.2.1), (range_of_fit h.2.2.1), (range_of_fit h.2.2.2.1), (range_of_fit h.2.2.2.2.1), (range_of_fit h.2.2.2.2.2.1), (range_of_fit h.2.2.2.2.2.2.1), (range_of_fit h.2.2.2.2.2.2.2.1), (range_of_fit h.2.2.2.2.2.2.2.2.1), (Nat.le_of_ble_eq_true h.2.2.2.2.2.2.2.2.2.1), (Nat.le_of_ble_eq_true h.2.2.2.2.2.2.2.2.2.2.1), ⟨by simpa using h.2.2.2.2.2.2.2.2.2.2.2.1.1, fun y0 hy0 => trivial⟩, trivial⟩
theorem Conf.rg.Stripes {x : Conf} (h : Conf.rg x) : I64 x.Stripes := h.1
theorem Conf.rg.Wait {x : Conf} (h : Conf.rg x) : I64 x.Wait := h.2.1
theorem Conf.rg.Budget {x : Conf} (h : Conf.rg x) : I64 x.Budget := h.2.2.1
theorem Conf.rg.Cache {x : Conf} (h : Conf.rg x) : I64 x.Cache := h.2.2.2.1
theorem Conf.rg.Queue {x : Conf} (h : Conf.rg x) : I64 x.Queue := h.2.2.2.2.1
theorem Conf.rg.Rate {x : Conf} (h : Conf.rg x) : I64 x.Rate := h.2.2.2.2.2.1
theorem Conf.rg.Burst {x : Conf} (h : Conf.rg x) : I64 x.Burst := h.2.2.2.2.2.2.1
structure Attr where
  Key : ByteArray
  Num : Bool
  N : Int
  Text : ByteArray
deriving DecidableEq, Inhabited
def Attr.cells (x : Attr) : List T := [.v (.string x.Key), .v (.bool x.Num), .v (.int .i64 x.N), .v (.string x.Text)]
theorem own_Attr (x : Attr) : OwnL (Attr.cells x) := ⟨.v _, .v _, .v _, .v _, trivial⟩
theorem frz_Attr (x : Attr) : frzL (Attr.cells x) = Attr.cells x := rfl
theorem fz_Attr (x : Attr) : (Attr.cells x).map T.fz = Attr.cells x := rfl
theorem fl_Attr (x : Attr) : (Attr.cells x).map T.flat = Attr.cells x := rfl
def Attr.bd (M : Nat) (x : Attr) : Prop := x.Key.size ≤ M ∧ x.Text.size ≤ M
def Attr.rg (x : Attr) : Prop := (x.Key).size ≤ 9223372036854775807 ∧ True ∧ I64 x.N ∧ (x.Text).size ≤ 9223372036854775807 ∧ True
theorem rg_Attr {x : Attr} (h : fitL (Attr.cells x)) : Attr.rg x := ⟨(Nat.le_of_ble_eq_true h.1), trivial, (range_of_fit h.2.2.1), (Nat.le_of_ble_eq_true h.2.2.2.1), trivial⟩
theorem Attr.rg.Key {x : Attr} (h : Attr.rg x) : (x.Key).size ≤ 9223372036854775807 := h.1
theorem Attr.rg.N {x : Attr} (h : Attr.rg x) : I64 x.N := h.2.2.1
theorem Attr.rg.Text {x : Attr} (h : Attr.rg x) : (x.Text).size ≤ 9223372036854775807 := h.2.2.2.1
structure Span where
  Trace : Int
  Id : Int
  Start : Int
  End : Int
  Err : Bool
  Attrs : (List Attr)
deriving DecidableEq, Inhabited
def Span.cells (o : Bool) (x : Span) : List T := [.v (.int .i64 x.Trace), .v (.int .i64 x.Id), .v (.int .i64 x.Start), .v (.int .i64 x.End), .v (.bool x.Err), .s o 4 (List.map Attr.cells x.Attrs)]
theorem own_Span (x : Span) : OwnL (Span.cells true x) := ⟨.v _, .v _, .v _, .v _, .v _, ownSl own_Attr _, trivial⟩
theorem frz_Span {o : Bool} (x : Span) : frzL (Span.cells o x) = Span.cells false x := by
  show [T.v (.int .i64 x.Trace), T.v (.int .i64 x.Id), T.v (.int .i64 x.Start), T.v (.int .i64 x.End), T.v (.bool x.Err), T.s false 4 (frzLL (List.map Attr.cells x.Attrs))] = _
  rw [frzMap (f := Attr.cells) (g := Attr.cells) frz_Attr x.Attrs]
  rfl
theorem sh_Span (x : Span) : (Span.cells false x).map T.sh = Span.cells false x := rfl
theorem fz_Span {o : Bool} (x : Span) : (Span.cells o x).map T.fz = Span.cells false x := by
  show [T.v (.int .i64 x.Trace), T.v (.int .i64 x.Id), T.v (.int .i64 x.Start), T.v (.int .i64 x.End), T.v (.bool x.Err), T.s false 4 (frzLL (List.map Attr.cells x.Attrs))] = _
  rw [frzMap (f := Attr.cells) (g := Attr.cells) frz_Attr x.Attrs]
  rfl
def Span.bd (M : Nat) (x : Span) : Prop := bdS Attr.bd M x.Attrs
def Span.rg (x : Span) : Prop := I64 x.Trace ∧ I64 x.Id ∧ I64 x.Start ∧ I64 x.End ∧ True ∧ ((x.Attrs).length ≤ 9223372036854775807 ∧ ∀ y ∈ x.Attrs, Attr.rg y) ∧ True
theorem rg_Span {o : Bool} {x : Span} (h : fitL (Span.cells o x)) : Span.rg x := ⟨(range_of_fit h.1), (range_of_fit h.2.1), (range_of_fit h.2.2.1), (range_of_fit h.2.2.2.1), trivial, ⟨by simpa using h.2.2.2.2.2.1.1, fun y0 hy0 => (rg_Attr (fitLL_map h.2.2.2.2.2.1.2 y0 hy0))⟩, trivial⟩
theorem Span.rg.Trace {x : Span} (h : Span.rg x) : I64 x.Trace := h.1
theorem Span.rg.Id {x : Span} (h : Span.rg x) : I64 x.Id := h.2.1
theorem Span.rg.Start {x : Span} (h : Span.rg x) : I64 x.Start := h.2.2.1
theorem Span.rg.End {x : Span} (h : Span.rg x) : I64 x.End := h.2.2.2.1
theorem Span.rg.Attrs {x : Span} (h : Span.rg x) : ((x.Attrs).length ≤ 9223372036854775807 ∧ ∀ y ∈ x.Attrs, Attr.rg y) := h.2.2.2.2.2.1
structure Trail where
  Id : Int
  Stamp : Int
  First : Int
  Spans : (List Span)
deriving DecidableEq, Inhabited
def Trail.cells (o : Bool) (x : Trail) : List T := [.v (.int .i64 x.Id), .v (.int .i64 x.Stamp), .v (.int .i64 x.First), .s o 6 (List.map (Span.cells o) x.Spans)]
theorem own_Trail (x : Trail) : OwnL (Trail.cells true x) := ⟨.v _, .v _, .v _, ownSl own_Span _, trivial⟩
theorem frz_Trail {o : Bool} (x : Trail) : frzL (Trail.cells o x) = Trail.cells false x := by
  show [T.v (.int .i64 x.Id), T.v (.int .i64 x.Stamp), T.v (.int .i64 x.First), T.s false 6 (frzLL (List.map (Span.cells o) x.Spans))] = _
  rw [frzMap (f := (Span.cells o)) (g := (Span.cells false)) frz_Span x.Spans]
  rfl
theorem sh_Trail (x : Trail) : (Trail.cells false x).map T.sh = Trail.cells false x := rfl
theorem fz_Trail {o : Bool} (x : Trail) : (Trail.cells o x).map T.fz = Trail.cells false x := by
  show [T.v (.int .i64 x.Id), T.v (.int .i64 x.Stamp), T.v (.int .i64 x.First), T.s false 6 (frzLL (List.map (Span.cells o) x.Spans))] = _
  rw [frzMap (f := (Span.cells o)) (g := (Span.cells false)) frz_Span x.Spans]
  rfl
def Trail.bd (M : Nat) (x : Trail) : Prop := bdS Span.bd M x.Spans
def Trail.rg (x : Trail) : Prop := I64 x.Id ∧ I64 x.Stamp ∧ I64 x.First ∧ ((x.Spans).length ≤ 9223372036854775807 ∧ ∀ y ∈ x.Spans, Span.rg y) ∧ True
theorem rg_Trail {o : Bool} {x : Trail} (h : fitL (Trail.cells o x)) : Trail.rg x := ⟨(range_of_fit h.1), (range_of_fit h.2.1), (range_of_fit h.2.2.1), ⟨by simpa using h.2.2.2.1.1, fun y0 hy0 => (rg_Span (fitLL_map h.2.2.2.1.2 y0 hy0))⟩, trivial⟩
theorem Trail.rg.Id {x : Trail} (h : Trail.rg x) : I64 x.Id := h.1
theorem Trail.rg.Stamp {x : Trail} (h : Trail.rg x) : I64 x.Stamp := h.2.1
theorem Trail.rg.First {x : Trail} (h : Trail.rg x) : I64 x.First := h.2.2.1
theorem Trail.rg.Spans {x : Trail} (h : Trail.rg x) : ((x.Spans).length ≤ 9223372036854775807 ∧ ∀ y ∈ x.Spans, Span.rg y) := h.2.2.2.1
structure Stripe where
  Held : Int
  L : (List Trail)
deriving DecidableEq, Inhabited
def Stripe.cells (o : Bool) (x : Stripe) : List T := [.v (.int .i64 x.Held), .s o 4 (List.map (Trail.cells o) x.L)]
theorem own_Stripe (x : Stripe) : OwnL (Stripe.cells true x) := ⟨.v _, ownSl own_Trail _, trivial⟩
theorem frz_Stripe {o : Bool} (x : Stripe) : frzL (Stripe.cells o x) = Stripe.cells false x := by
  show [T.v (.int .i64 x.Held), T.s false 4 (frzLL (List.map (Trail.cells o) x.L))] = _
  rw [frzMap (f := (Trail.cells o)) (g := (Trail.cells false)) frz_Trail x.L]
  rfl
theorem sh_Stripe (x : Stripe) : (Stripe.cells false x).map T.sh = Stripe.cells false x := rfl
theorem fz_Stripe {o : Bool} (x : Stripe) : (Stripe.cells o x).map T.fz = Stripe.cells false x := by
  show [T.v (.int .i64 x.Held), T.s false 4 (frzLL (List.map (Trail.cells o) x.L))] = _
  rw [frzMap (f := (Trail.cells o)) (g := (Trail.cells false)) frz_Trail x.L]
  rfl
def Stripe.bd (M : Nat) (x : Stripe) : Prop := bdS Trail.bd M x.L
def Stripe.rg (x : Stripe) : Prop := I64 x.Held ∧ ((x.L).length ≤ 9223372036854775807 ∧ ∀ y ∈ x.L, Trail.rg y) ∧ True
theorem rg_Stripe {o : Bool} {x : Stripe} (h : fitL (Stripe.cells o x)) : Stripe.rg x := ⟨(range_of_fit h.1), ⟨by simpa using h.2.1.1, fun y0 hy0 => (rg_Trail (fitLL_map h.2.1.2 y0 hy0))⟩, trivial⟩
theorem Stripe.rg.Held {x : Stripe} (h : Stripe.rg x) : I64 x.Held := h.1
theorem Stripe.rg.L {x : Stripe} (h : Stripe.rg x) : ((x.L).length ≤ 9223372036854775807 ∧ ∀ y ∈ x.L, Trail.rg y) := h.2.1
structure Bucket where
  Rate : Int
  Burst : Int
  Tokens : Int
  At : Int
deriving DecidableEq, Inhabited
def Bucket.cells (x : Bucket) : List T := [.v (.int .i64 x.Rate), .v (.int .i64 x.Burst), .v (.int .i64 x.Tokens), .v (.int .i64 x.At)]
theorem own_Bucket (x : Bucket) : OwnL (Bucket.cells x) := ⟨.v _, .v _, .v _, .v _, trivial⟩
theorem frz_Bucket (x : Bucket) : frzL (Bucket.cells x) = Bucket.cells x := rfl
theorem fz_Bucket (x : Bucket) : (Bucket.cells x).map T.fz = Bucket.cells x := rfl
theorem fl_Bucket (x : Bucket) : (Bucket.cells x).map T.flat = Bucket.cells x := rfl
def Bucket.bd (M : Nat) (x : Bucket) : Prop := True
def Bucket.rg (x : Bucket) : Prop := I64 x.Rate ∧ I64 x.Burst ∧ I64 x.Tokens ∧ I64 x.At ∧ True
theorem rg_Bucket {x : Bucket} (h : fitL (Bucket.cells x)) : Bucket.rg x := ⟨(range_of_fit h.1), (range_of_fit h.2.1), (range_of_fit h.2.2.1), (range_of_fit h.2.2.2.1), trivial⟩
theorem Bucket.rg.Rate {x : Bucket} (h : Bucket.rg x) : I64 x.Rate := h.1
theorem Bucket.rg.Burst {x : Bucket} (h : Bucket.rg x) : I64 x.Burst := h.2.1
theorem Bucket.rg.Tokens {x : Bucket} (h : Bucket.rg x) : I64 x.Tokens := h.2.2.1
theorem Bucket.rg.At {x : Bucket} (h : Bucket.rg x) : I64 x.At := h.2.2.2.1
structure Verdict where
  Trace : Int
  Stamp : Int
  Keep : Bool
deriving DecidableEq, Inhabited
def Verdict.cells (x : Verdict) : List T := [.v (.int .i64 x.Trace), .v (.int .i64 x.Stamp), .v (.bool x.Keep)]
theorem own_Verdict (x : Verdict) : OwnL (Verdict.cells x) := ⟨.v _, .v _, .v _, trivial⟩
theorem frz_Verdict (x : Verdict) : frzL (Verdict.cells x) = Verdict.cells x := rfl
theorem fz_Verdict (x : Verdict) : (Verdict.cells x).map T.fz = Verdict.cells x := rfl
theorem fl_Verdict (x : Verdict) : (Verdict.cells x).map T.flat = Verdict.cells x := rfl
def Verdict.bd (M : Nat) (x : Verdict) : Prop := True
def Verdict.rg (x : Verdict) : Prop := I64 x.Trace ∧ I64 x.Stamp ∧ True ∧ True
theorem rg_Verdict {x : Verdict} (h : fitL (Verdict.cells x)) : Verdict.rg x := ⟨(range_of_fit h.1), (range_of_fit h.2.1), trivial, trivial⟩
theorem Verdict.rg.Trace {x : Verdict} (h : Verdict.rg x) : I64 x.Trace := h.1
theorem Verdict.rg.Stamp {x : Verdict} (h : Verdict.rg x) : I64 x.Stamp := h.2.1
structure Timer where
  Id : Int
  Trace : Int
  At : Int
deriving DecidableEq, Inhabited
def Timer.cells (x : Timer) : List T := [.v (.int .i64 x.Id), .v (.int .i64 x.Trace), .v (.int .i64 x.At)]
theorem own_Timer (x : Timer) : OwnL (Timer.cells x) := ⟨.v _, .v _, .v _, trivial⟩
theorem frz_Timer (x : Timer) : frzL (Timer.cells x) = Timer.cells x := rfl
theorem fz_Timer (x : Timer) : (Timer.cells x).map T.fz = Timer.cells x := rfl
theorem fl_Timer (x : Timer) : (Timer.cells x).map T.flat = Timer.cells x := rfl
def Timer.bd (M : Nat) (x : Timer) : Prop := True
def Timer.rg (x : Timer) : Prop := I64 x.Id ∧ I64 x.Trace ∧ I64 x.At ∧ True
theorem rg_Timer {x : Timer} (h : fitL (Timer.cells x)) : Timer.rg x := ⟨(range_of_fit h.1), (range_of_fit h.2.1), (range_of_fit h.2.2.1), trivial⟩
theorem Timer.rg.Id {x : Timer} (h : Timer.rg x) : I64 x.Id := h.1
theorem Timer.rg.Trace {x : Timer} (h : Timer.rg x) : I64 x.Trace := h.2.1
theorem Timer.rg.At {x : Timer} (h : Timer.rg x) : I64 x.At := h.2.2.1
structure Wheel where
  Now : Int
  Near : (List (List Timer))
  Far : (List (List Timer))
  Rest : (List Timer)
deriving DecidableEq, Inhabited
def Wheel.cells (o : Bool) (x : Wheel) : List T := [.v (.int .i64 x.Now), .s o 1 (List.map (cSl o 3 Timer.cells) x.Near), .s o 1 (List.map (cSl o 3 Timer.cells) x.Far), .s o 3 (List.map Timer.cells x.Rest)]
theorem own_Wheel (x : Wheel) : OwnL (Wheel.cells true x) := ⟨.v _, ownSl (own_cSl own_Timer) _, ownSl (own_cSl own_Timer) _, ownSl own_Timer _, trivial⟩
theorem frz_Wheel {o : Bool} (x : Wheel) : frzL (Wheel.cells o x) = Wheel.cells false x := by
  show [T.v (.int .i64 x.Now), T.s false 1 (frzLL (List.map (cSl o 3 Timer.cells) x.Near)), T.s false 1 (frzLL (List.map (cSl o 3 Timer.cells) x.Far)), T.s false 3 (frzLL (List.map Timer.cells x.Rest))] = _
  rw [frzMap (f := (cSl o 3 Timer.cells)) (g := (cSl false 3 Timer.cells)) (frz_cSl frz_Timer) x.Near]
  rw [frzMap (f := (cSl o 3 Timer.cells)) (g := (cSl false 3 Timer.cells)) (frz_cSl frz_Timer) x.Far]
  rw [frzMap (f := Timer.cells) (g := Timer.cells) frz_Timer x.Rest]
  rfl
theorem sh_Wheel (x : Wheel) : (Wheel.cells false x).map T.sh = Wheel.cells false x := rfl
theorem fz_Wheel {o : Bool} (x : Wheel) : (Wheel.cells o x).map T.fz = Wheel.cells false x := by
  show [T.v (.int .i64 x.Now), T.s false 1 (frzLL (List.map (cSl o 3 Timer.cells) x.Near)), T.s false 1 (frzLL (List.map (cSl o 3 Timer.cells) x.Far)), T.s false 3 (frzLL (List.map Timer.cells x.Rest))] = _
  rw [frzMap (f := (cSl o 3 Timer.cells)) (g := (cSl false 3 Timer.cells)) (frz_cSl frz_Timer) x.Near]
  rw [frzMap (f := (cSl o 3 Timer.cells)) (g := (cSl false 3 Timer.cells)) (frz_cSl frz_Timer) x.Far]
  rw [frzMap (f := Timer.cells) (g := Timer.cells) frz_Timer x.Rest]
  rfl
def Wheel.bd (M : Nat) (x : Wheel) : Prop := bdS (bdS Timer.bd) M x.Near ∧ bdS (bdS Timer.bd) M x.Far ∧ bdS Timer.bd M x.Rest
def Wheel.rg (x : Wheel) : Prop := I64 x.Now ∧ ((x.Near).length ≤ 9223372036854775807 ∧ ∀ y ∈ x.Near, ((y).length ≤ 9223372036854775807 ∧ ∀ yy ∈ y, Timer.rg yy)) ∧ ((x.Far).length ≤ 9223372036854775807 ∧ ∀ y ∈ x.Far, ((y).length ≤ 9223372036854775807 ∧ ∀ yy ∈ y, Timer.rg yy)) ∧ ((x.Rest).length ≤ 9223372036854775807 ∧ ∀ y ∈ x.Rest, Timer.rg y) ∧ True
theorem rg_Wheel {o : Bool} {x : Wheel} (h : fitL (Wheel.cells o x)) : Wheel.rg x := ⟨(range_of_fit h.1), ⟨by simpa using h.2.1.1, fun y0 hy0 => ⟨by simpa using (fitLL_map h.2.1.2 y0 hy0).1.1, fun y1 hy1 => (rg_Timer (fitLL_map (fitLL_map h.2.1.2 y0 hy0).1.2 y1 hy1))⟩⟩, ⟨by simpa using h.2.2.1.1, fun y0 hy0 => ⟨by simpa using (fitLL_map h.2.2.1.2 y0 hy0).1.1, fun y1 hy1 => (rg_Timer (fitLL_map (fitLL_map h.2.2.1.2 y0 hy0).1.2 y1 hy1))⟩⟩, ⟨by simpa using h.2.2.2.1.1, fun y0 hy0 => (rg_Timer (fitLL_map h.2.2.2.1.2 y0 hy0))⟩, trivial⟩
theorem Wheel.rg.Now {x : Wheel} (h : Wheel.rg x) : I64 x.Now := h.1
theorem Wheel.rg.Near {x : Wheel} (h : Wheel.rg x) : ((x.Near).length ≤ 9223372036854775807 ∧ ∀ y ∈ x.Near, ((y).length ≤ 9223372036854775807 ∧ ∀ yy ∈ y, Timer.rg yy)) := h.2.1
theorem Wheel.rg.Far {x : Wheel} (h : Wheel.rg x) : ((x.Far).length ≤ 9223372036854775807 ∧ ∀ y ∈ x.Far, ((y).length ≤ 9223372036854775807 ∧ ∀ yy ∈ y, Timer.rg yy)) := h.2.2.1
theorem Wheel.rg.Rest {x : Wheel} (h : Wheel.rg x) : ((x.Rest).length ≤ 9223372036854775807 ∧ ∀ y ∈ x.Rest, Timer.rg y) := h.2.2.2.1
structure Item where
  Stamp : Int
  S : Span
deriving DecidableEq, Inhabited
def Item.cells (o : Bool) (x : Item) : List T := [.v (.int .i64 x.Stamp), .v (.int .i64 x.S.Trace), .v (.int .i64 x.S.Id), .v (.int .i64 x.S.Start), .v (.int .i64 x.S.End), .v (.bool x.S.Err), .s o 4 (List.map Attr.cells x.S.Attrs)]
theorem own_Item (x : Item) : OwnL (Item.cells true x) := ⟨.v _, .v _, .v _, .v _, .v _, .v _, ownSl own_Attr _, trivial⟩
theorem frz_Item {o : Bool} (x : Item) : frzL (Item.cells o x) = Item.cells false x := by
  show [T.v (.int .i64 x.Stamp), T.v (.int .i64 x.S.Trace), T.v (.int .i64 x.S.Id), T.v (.int .i64 x.S.Start), T.v (.int .i64 x.S.End), T.v (.bool x.S.Err), T.s false 4 (frzLL (List.map Attr.cells x.S.Attrs))] = _
  rw [frzMap (f := Attr.cells) (g := Attr.cells) frz_Attr x.S.Attrs]
  rfl
theorem sh_Item (x : Item) : (Item.cells false x).map T.sh = Item.cells false x := rfl
theorem fz_Item {o : Bool} (x : Item) : (Item.cells o x).map T.fz = Item.cells false x := by
  show [T.v (.int .i64 x.Stamp), T.v (.int .i64 x.S.Trace), T.v (.int .i64 x.S.Id), T.v (.int .i64 x.S.Start), T.v (.int .i64 x.S.End), T.v (.bool x.S.Err), T.s false 4 (frzLL (List.map Attr.cells x.S.Attrs))] = _
  rw [frzMap (f := Attr.cells) (g := Attr.cells) frz_Attr x.S.Attrs]
  rfl
def Item.bd (M : Nat) (x : Item) : Prop := Span.bd M x.S
def Item.rg (x : Item) : Prop := I64 x.Stamp ∧ I64 x.S.Trace ∧ I64 x.S.Id ∧ I64 x.S.Start ∧ I64 x.S.End ∧ True ∧ ((x.S.Attrs).length ≤ 9223372036854775807 ∧ ∀ y ∈ x.S.Attrs, Attr.rg y) ∧ True
theorem rg_Item {o : Bool} {x : Item} (h : fitL (Item.cells o x)) : Item.rg x := ⟨(range_of_fit h.1), (range_of_fit h.2.1), (range_of_fit h.2.2.1), (range_of_fit h.2.2.2.1), (range_of_fit h.2.2.2.2.1), trivial, ⟨by simpa using h.2.2.2.2.2.2.1.1, fun y0 hy0 => (rg_Attr (fitLL_map h.2.2.2.2.2.2.1.2 y0 hy0))⟩, trivial⟩
theorem Item.rg.Stamp {x : Item} (h : Item.rg x) : I64 x.Stamp := h.1
theorem Item.rg.S {x : Item} (h : Item.rg x) : Span.rg x.S := ⟨h.2.1, h.2.2.1, h.2.2.2.1, h.2.2.2.2.1, h.2.2.2.2.2.1, h.2.2.2.2.2.2.1, trivial⟩
structure Task where
  Op : Int
  Pc : Int
  S : Span
  Trace : Int
  Stamp : Int
  Hand : (List Item)
  H : Int
deriving DecidableEq, Inhabited
def Task.cells (o : Bool) (x : Task) : List T := [.v (.int .i64 x.Op), .v (.int .i64 x.Pc), .v (.int .i64 x.S.Trace), .v (.int .i64 x.S.Id), .v (.int .i64 x.S.Start), .v (.int .i64 x.S.End), .v (.bool x.S.Err), .s o 4 (List.map Attr.cells x.S.Attrs), .v (.int .i64 x.Trace), .v (.int .i64 x.Stamp), .s o 7 (List.map (Item.cells o) x.Hand), .v (.int .i64 x.H)]
theorem own_Task (x : Task) : OwnL (Task.cells true x) := ⟨.v _, .v _, .v _, .v _, .v _, .v _, .v _, ownSl own_Attr _, .v _, .v _, ownSl own_Item _, .v _, trivial⟩
theorem frz_Task {o : Bool} (x : Task) : frzL (Task.cells o x) = Task.cells false x := by
  show [T.v (.int .i64 x.Op), T.v (.int .i64 x.Pc), T.v (.int .i64 x.S.Trace), T.v (.int .i64 x.S.Id), T.v (.int .i64 x.S.Start), T.v (.int .i64 x.S.End), T.v (.bool x.S.Err), T.s false 4 (frzLL (List.map Attr.cells x.S.Attrs)), T.v (.int .i64 x.Trace), T.v (.int .i64 x.Stamp), T.s false 7 (frzLL (List.map (Item.cells o) x.Hand)), T.v (.int .i64 x.H)] = _
  rw [frzMap (f := Attr.cells) (g := Attr.cells) frz_Attr x.S.Attrs]
  rw [frzMap (f := (Item.cells o)) (g := (Item.cells false)) frz_Item x.Hand]
  rfl
theorem sh_Task (x : Task) : (Task.cells false x).map T.sh = Task.cells false x := rfl
theorem fz_Task {o : Bool} (x : Task) : (Task.cells o x).map T.fz = Task.cells false x := by
  show [T.v (.int .i64 x.Op), T.v (.int .i64 x.Pc), T.v (.int .i64 x.S.Trace), T.v (.int .i64 x.S.Id), T.v (.int .i64 x.S.Start), T.v (.int .i64 x.S.End), T.v (.bool x.S.Err), T.s false 4 (frzLL (List.map Attr.cells x.S.Attrs)), T.v (.int .i64 x.Trace), T.v (.int .i64 x.Stamp), T.s false 7 (frzLL (List.map (Item.cells o) x.Hand)), T.v (.int .i64 x.H)] = _
  rw [frzMap (f := Attr.cells) (g := Attr.cells) frz_Attr x.S.Attrs]
  rw [frzMap (f := (Item.cells o)) (g := (Item.cells false)) frz_Item x.Hand]
  rfl
def Task.bd (M : Nat) (x : Task) : Prop := Span.bd M x.S ∧ bdS Item.bd M x.Hand
def Task.rg (x : Task) : Prop := I64 x.Op ∧ I64 x.Pc ∧ I64 x.S.Trace ∧ I64 x.S.Id ∧ I64 x.S.Start ∧ I64 x.S.End ∧ True ∧ ((x.S.Attrs).length ≤ 9223372036854775807 ∧ ∀ y ∈ x.S.Attrs, Attr.rg y) ∧ I64 x.Trace ∧ I64 x.Stamp ∧ ((x.Hand).length ≤ 9223372036854775807 ∧ ∀ y ∈ x.Hand, Item.rg y) ∧ I64 x.H ∧ True
theorem rg_Task {o : Bool} {x : Task} (h : fitL (Task.cells o x)) : Task.rg x := ⟨(range_of_fit h.1), (range_of_fit h.2.1), (range_of_fit h.2.2.1), (range_of_fit h.2.2.2.1), (range_of_fit h.2.2.2.2.1), (range_of_fit h.2.2.2.2.2.1), trivial, ⟨by simpa using h.2.2.2.2.2.2.2.1.1, fun y0 hy0 => (rg_Attr (fitLL_map h.2.2.2.2.2.2.2.1.2 y0 hy0))⟩, (range_of_fit h.2.2.2.2.2.2.2.2.1), (range_of_fit h.2.2.2.2.2.2.2.2.2.1), ⟨by simpa using h.2.2.2.2.2.2.2.2.2.2.1.1, fun y0 hy0 => (rg_Item (fitLL_map h.2.2.2.2.2.2.2.2.2.2.1.2 y0 hy0))⟩, (range_of_fit h.2.2.2.2.2.2.2.2.2.2.2.1), trivial⟩
theorem Task.rg.Op {x : Task} (h : Task.rg x) : I64 x.Op := h.1
theorem Task.rg.Pc {x : Task} (h : Task.rg x) : I64 x.Pc := h.2.1
theorem Task.rg.S {x : Task} (h : Task.rg x) : Span.rg x.S := ⟨h.2.2.1, h.2.2.2.1, h.2.2.2.2.1, h.2.2.2.2.2.1, h.2.2.2.2.2.2.1, h.2.2.2.2.2.2.2.1, trivial⟩
theorem Task.rg.Trace {x : Task} (h : Task.rg x) : I64 x.Trace := h.2.2.2.2.2.2.2.2.1
theorem Task.rg.Stamp {x : Task} (h : Task.rg x) : I64 x.Stamp := h.2.2.2.2.2.2.2.2.2.1
theorem Task.rg.Hand {x : Task} (h : Task.rg x) : ((x.Hand).length ≤ 9223372036854775807 ∧ ∀ y ∈ x.Hand, Item.rg y) := h.2.2.2.2.2.2.2.2.2.2.1
theorem Task.rg.H {x : Task} (h : Task.rg x) : I64 x.H := h.2.2.2.2.2.2.2.2.2.2.2.1
structure Deed where
  Op : Int
  Task : Int
  S : Span
  Trace : Int
  Stamp : Int
  Code : Int
  Keep : Bool
  Void : Bool
  Took : Int
  N : Int
  Forgot : Int
  Now : Int
  Inv : Int
  Lin : Int
  Res : Int
deriving DecidableEq, Inhabited
def Deed.cells (o : Bool) (x : Deed) : List T := [.v (.int .i64 x.Op), .v (.int .i64 x.Task), .v (.int .i64 x.S.Trace), .v (.int .i64 x.S.Id), .v (.int .i64 x.S.Start), .v (.int .i64 x.S.End), .v (.bool x.S.Err), .s o 4 (List.map Attr.cells x.S.Attrs), .v (.int .i64 x.Trace), .v (.int .i64 x.Stamp), .v (.int .i64 x.Code), .v (.bool x.Keep), .v (.bool x.Void), .v (.int .i64 x.Took), .v (.int .i64 x.N), .v (.int .i64 x.Forgot), .v (.int .i64 x.Now), .v (.int .i64 x.Inv), .v (.int .i64 x.Lin), .v (.int .i64 x.Res)]
theorem own_Deed (x : Deed) : OwnL (Deed.cells true x) := ⟨.v _, .v _, .v _, .v _, .v _, .v _, .v _, ownSl own_Attr _, .v _, .v _, .v _, .v _, .v _, .v _, .v _, .v _, .v _, .v _, .v _, .v _, trivial⟩
theorem frz_Deed {o : Bool} (x : Deed) : frzL (Deed.cells o x) = Deed.cells false x := by
  show [T.v (.int .i64 x.Op), T.v (.int .i64 x.Task), T.v (.int .i64 x.S.Trace), T.v (.int .i64 x.S.Id), T.v (.int .i64 x.S.Start), T.v (.int .i64 x.S.End), T.v (.bool x.S.Err), T.s false 4 (frzLL (List.map Attr.cells x.S.Attrs)), T.v (.int .i64 x.Trace), T.v (.int .i64 x.Stamp), T.v (.int .i64 x.Code), T.v (.bool x.Keep), T.v (.bool x.Void), T.v (.int .i64 x.Took), T.v (.int .i64 x.N), T.v (.int .i64 x.Forgot), T.v (.int .i64 x.Now), T.v (.int .i64 x.Inv), T.v (.int .i64 x.Lin), T.v (.int .i64 x.Res)] = _
  rw [frzMap (f := Attr.cells) (g := Attr.cells) frz_Attr x.S.Attrs]
  rfl
theorem sh_Deed (x : Deed) : (Deed.cells false x).map T.sh = Deed.cells false x := rfl
theorem fz_Deed {o : Bool} (x : Deed) : (Deed.cells o x).map T.fz = Deed.cells false x := by
  show [T.v (.int .i64 x.Op), T.v (.int .i64 x.Task), T.v (.int .i64 x.S.Trace), T.v (.int .i64 x.S.Id), T.v (.int .i64 x.S.Start), T.v (.int .i64 x.S.End), T.v (.bool x.S.Err), T.s false 4 (frzLL (List.map Attr.cells x.S.Attrs)), T.v (.int .i64 x.Trace), T.v (.int .i64 x.Stamp), T.v (.int .i64 x.Code), T.v (.bool x.Keep), T.v (.bool x.Void), T.v (.int .i64 x.Took), T.v (.int .i64 x.N), T.v (.int .i64 x.Forgot), T.v (.int .i64 x.Now), T.v (.int .i64 x.Inv), T.v (.int .i64 x.Lin), T.v (.int .i64 x.Res)] = _
  rw [frzMap (f := Attr.cells) (g := Attr.cells) frz_Attr x.S.Attrs]
  rfl
def Deed.bd (M : Nat) (x : Deed) : Prop := Span.bd M x.S
def Deed.rg (x : Deed) : Prop := I64 x.Op ∧ I64 x.Task ∧ I64 x.S.Trace ∧ I64 x.S.Id ∧ I64 x.S.Start ∧ I64 x.S.End ∧ True ∧ ((x.S.Attrs).length ≤ 9223372036854775807 ∧ ∀ y ∈ x.S.Attrs, Attr.rg y) ∧ I64 x.Trace ∧ I64 x.Stamp ∧ I64 x.Code ∧ True ∧ True ∧ I64 x.Took ∧ I64 x.N ∧ I64 x.Forgot ∧ I64 x.Now ∧ I64 x.Inv ∧ I64 x.Lin ∧ I64 x.Res ∧ True
theorem rg_Deed {o : Bool} {x : Deed} (h : fitL (Deed.cells o x)) : Deed.rg x := ⟨(range_of_fit h.1), (range_of_fit h.2.1), (range_of_fit h.2.2.1), (range_of_fit h.2.2.2.1), (range_of_fit h.2.2.2.2.1), (range_of_fit h.2.2.2.2.2.1), trivial, ⟨by simpa using h.2.2.2.2.2.2.2.1.1, fun y0 hy0 => (rg_Attr (fitLL_map h.2.2.2.2.2.2.2.1.2 y0 hy0))⟩, (range_of_fit h.2.2.2.2.2.2.2.2.1), (range_of_fit h.2.2.2.2.2.2.2.2.2.1), (range_of_fit h.2.2.2.2.2.2.2.2.2.2.1), trivial, trivial, (range_of_fit h.2.2.2.2.2.2.2.2.2.2.2.2.2.1), (range_of_fit h.2.2.2.2.2.2.2.2.2.2.2.2.2.2.1), (range_of_fit h.2.2.2.2.2.2.2.2.2.2.2.2.2.2.2.1), (range_of_fit h.2.2.2.2.2.2.2.2.2.2.2.2.2.2.2.2.1), (range_of_fit h.2.2.2.2.2.2.2.2.2.2.2.2.2.2.2.2.2.1), (range_of_fit h.2.2.2.2.2.2.2.2.2.2.2.2.2.2.2.2.2.2.1), (range_of_fit h.2.2.2.2.2.2.2.2.2.2.2.2.2.2.2.2.2.2.2.1), trivial⟩
theorem Deed.rg.Op {x : Deed} (h : Deed.rg x) : I64 x.Op := h.1
theorem Deed.rg.Task {x : Deed} (h : Deed.rg x) : I64 x.Task := h.2.1
theorem Deed.rg.S {x : Deed} (h : Deed.rg x) : Span.rg x.S := ⟨h.2.2.1, h.2.2.2.1, h.2.2.2.2.1, h.2.2.2.2.2.1, h.2.2.2.2.2.2.1, h.2.2.2.2.2.2.2.1, trivial⟩
theorem Deed.rg.Trace {x : Deed} (h : Deed.rg x) : I64 x.Trace := h.2.2.2.2.2.2.2.2.1
theorem Deed.rg.Stamp {x : Deed} (h : Deed.rg x) : I64 x.Stamp := h.2.2.2.2.2.2.2.2.2.1
theorem Deed.rg.Code {x : Deed} (h : Deed.rg x) : I64 x.Code := h.2.2.2.2.2.2.2.2.2.2.1
theorem Deed.rg.Took {x : Deed} (h : Deed.rg x) : I64 x.Took := h.2.2.2.2.2.2.2.2.2.2.2.2.2.1
theorem Deed.rg.N {x : Deed} (h : Deed.rg x) : I64 x.N := h.2.2.2.2.2.2.2.2.2.2.2.2.2.2.1
theorem Deed.rg.Forgot {x : Deed} (h : Deed.rg x) : I64 x.Forgot := h.2.2.2.2.2.2.2.2.2.2.2.2.2.2.2.1
theorem Deed.rg.Now {x : Deed} (h : Deed.rg x) : I64 x.Now := h.2.2.2.2.2.2.2.2.2.2.2.2.2.2.2.2.1
theorem Deed.rg.Inv {x : Deed} (h : Deed.rg x) : I64 x.Inv := h.2.2.2.2.2.2.2.2.2.2.2.2.2.2.2.2.2.1
theorem Deed.rg.Lin {x : Deed} (h : Deed.rg x) : I64 x.Lin := h.2.2.2.2.2.2.2.2.2.2.2.2.2.2.2.2.2.2.1
theorem Deed.rg.Res {x : Deed} (h : Deed.rg x) : I64 x.Res := h.2.2.2.2.2.2.2.2.2.2.2.2.2.2.2.2.2.2.2.1
structure World where
  C : Conf
  Time : Int
  Shut : Bool
  St : (List Stripe)
  RuleHeld : Int
  B : Bucket
  Cache : (List Verdict)
  Used : Int
  W : Wheel
  Due : (List Timer)
  Queue : (List Item)
  Out : (List Item)
  Tasks : (List Task)
  Deeds : (List Deed)
  Next : Int
deriving Inhabited
def World.cells (o : Bool) (x : World) : List T := [.v (.int .i64 x.C.Stripes), .v (.int .i64 x.C.Wait), .v (.int .i64 x.C.Budget), .v (.int .i64 x.C.Cache), .v (.int .i64 x.C.Queue), .v (.int .i64 x.C.Rate), .v (.int .i64 x.C.Burst), .v (.int .i64 x.C.Rule.Kind), .v (.int .i64 x.C.Rule.N), .v (.string x.C.Rule.Key), .v (.string x.C.Rule.Text), .s o 5 (List.map (Pol.cells o) x.C.Rule.L), .v (.int .i64 x.Time), .v (.bool x.Shut), .s o 2 (List.map (Stripe.cells o) x.St), .v (.int .i64 x.RuleHeld), .v (.int .i64 x.B.Rate), .v (.int .i64 x.B.Burst), .v (.int .i64 x.B.Tokens), .v (.int .i64 x.B.At), .s o 3 (List.map Verdict.cells x.Cache), .v (.int .i64 x.Used), .v (.int .i64 x.W.Now), .s o 1 (List.map (cSl o 3 Timer.cells) x.W.Near), .s o 1 (List.map (cSl o 3 Timer.cells) x.W.Far), .s o 3 (List.map Timer.cells x.W.Rest), .s o 3 (List.map Timer.cells x.Due), .s o 7 (List.map (Item.cells o) x.Queue), .s o 7 (List.map (Item.cells o) x.Out), .s o 12 (List.map (Task.cells o) x.Tasks), .s o 20 (List.map (Deed.cells o) x.Deeds), .v (.int .i64 x.Next)]
theorem own_World (x : World) : OwnL (World.cells true x) := ⟨.v _, .v _, .v _, .v _, .v _, .v _, .v _, .v _, .v _, .v _, .v _, ownSl own_Pol _, .v _, .v _, ownSl own_Stripe _, .v _, .v _, .v _, .v _, .v _, ownSl own_Verdict _, .v _, .v _, ownSl (own_cSl own_Timer) _, ownSl (own_cSl own_Timer) _, ownSl own_Timer _, ownSl own_Timer _, ownSl own_Item _, ownSl own_Item _, ownSl own_Task _, ownSl own_Deed _, .v _, trivial⟩
theorem frz_World {o : Bool} (x : World) : frzL (World.cells o x) = World.cells false x := by
  show [T.v (.int .i64 x.C.Stripes), T.v (.int .i64 x.C.Wait), T.v (.int .i64 x.C.Budget), T.v (.int .i64 x.C.Cache), T.v (.int .i64 x.C.Queue), T.v (.int .i64 x.C.Rate), T.v (.int .i64 x.C.Burst), T.v (.int .i64 x.C.Rule.Kind), T.v (.int .i64 x.C.Rule.N), T.v (.string x.C.Rule.Key), T.v (.string x.C.Rule.Text), T.s false 5 (frzLL (List.map (Pol.cells o) x.C.Rule.L)), T.v (.int .i64 x.Time), T.v (.bool x.Shut), T.s false 2 (frzLL (List.map (Stripe.cells o) x.St)), T.v (.int .i64 x.RuleHeld), T.v (.int .i64 x.B.Rate), T.v (.int .i64 x.B.Burst), T.v (.int .i64 x.B.Tokens), T.v (.int .i64 x.B.At), T.s false 3 (frzLL (List.map Verdict.cells x.Cache)), T.v (.int .i64 x.Used), T.v (.int .i64 x.W.Now), T.s false 1 (frzLL (List.map (cSl o 3 Timer.cells) x.W.Near)), T.s false 1 (frzLL (List.map (cSl o 3 Timer.cells) x.W.Far)), T.s false 3 (frzLL (List.map Timer.cells x.W.Rest)), T.s false 3 (frzLL (List.map Timer.cells x.Due)), T.s false 7 (frzLL (List.map (Item.cells o) x.Queue)), T.s false 7 (frzLL (List.map (Item.cells o) x.Out)), T.s false 12 (frzLL (List.map (Task.cells o) x.Tasks)), T.s false 20 (frzLL (List.map (Deed.cells o) x.Deeds)), T.v (.int .i64 x.Next)] = _
  rw [frzMap (f := (Pol.cells o)) (g := (Pol.cells false)) frz_Pol x.C.Rule.L]
  rw [frzMap (f := (Stripe.cells o)) (g := (Stripe.cells false)) frz_Stripe x.St]
  rw [frzMap (f := Verdict.cells) (g := Verdict.cells) frz_Verdict x.Cache]
  rw [frzMap (f := (cSl o 3 Timer.cells)) (g := (cSl false 3 Timer.cells)) (frz_cSl frz_Timer) x.W.Near]
  rw [frzMap (f := (cSl o 3 Timer.cells)) (g := (cSl false 3 Timer.cells)) (frz_cSl frz_Timer) x.W.Far]
  rw [frzMap (f := Timer.cells) (g := Timer.cells) frz_Timer x.W.Rest]
  rw [frzMap (f := Timer.cells) (g := Timer.cells) frz_Timer x.Due]
  rw [frzMap (f := (Item.cells o)) (g := (Item.cells false)) frz_Item x.Queue]
  rw [frzMap (f := (Item.cells o)) (g := (Item.cells false)) frz_Item x.Out]
  rw [frzMap (f := (Task.cells o)) (g := (Task.cells false)) frz_Task x.Tasks]
  rw [frzMap (f := (Deed.cells o)) (g := (Deed.cells false)) frz_Deed x.Deeds]
  rfl
theorem sh_World (x : World) : (World.cells false x).map T.sh = World.cells false x := rfl
theorem fz_World {o : Bool} (x : World) : (World.cells o x).map T.fz = World.cells false x := by
  show [T.v (.int .i64 x.C.Stripes), T.v (.int .i64 x.C.Wait), T.v (.int .i64 x.C.Budget), T.v (.int .i64 x.C.Cache), T.v (.int .i64 x.C.Queue), T.v (.int .i64 x.C.Rate), T.v (.int .i64 x.C.Burst), T.v (.int .i64 x.C.Rule.Kind), T.v (.int .i64 x.C.Rule.N), T.v (.string x.C.Rule.Key), T.v (.string x.C.Rule.Text), T.s false 5 (frzLL (List.map (Pol.cells o) x.C.Rule.L)), T.v (.int .i64 x.Time), T.v (.bool x.Shut), T.s false 2 (frzLL (List.map (Stripe.cells o) x.St)), T.v (.int .i64 x.RuleHeld), T.v (.int .i64 x.B.Rate), T.v (.int .i64 x.B.Burst), T.v (.int .i64 x.B.Tokens), T.v (.int .i64 x.B.At), T.s false 3 (frzLL (List.map Verdict.cells x.Cache)), T.v (.int .i64 x.Used), T.v (.int .i64 x.W.Now), T.s false 1 (frzLL (List.map (cSl o 3 Timer.cells) x.W.Near)), T.s false 1 (frzLL (List.map (cSl o 3 Timer.cells) x.W.Far)), T.s false 3 (frzLL (List.map Timer.cells x.W.Rest)), T.s false 3 (frzLL (List.map Timer.cells x.Due)), T.s false 7 (frzLL (List.map (Item.cells o) x.Queue)), T.s false 7 (frzLL (List.map (Item.cells o) x.Out)), T.s false 12 (frzLL (List.map (Task.cells o) x.Tasks)), T.s false 20 (frzLL (List.map (Deed.cells o) x.Deeds)), T.v (.int .i64 x.Next)] = _
  rw [frzMap (f := (Pol.cells o)) (g := (Pol.cells false)) frz_Pol x.C.Rule.L]
  rw [frzMap (f := (Stripe.cells o)) (g := (Stripe.cells false)) frz_Stripe x.St]
  rw [frzMap (f := Verdict.cells) (g := Verdict.cells) frz_Verdict x.Cache]
  rw [frzMap (f := (cSl o 3 Timer.cells)) (g := (cSl false 3 Timer.cells)) (frz_cSl frz_Timer) x.W.Near]
  rw [frzMap (f := (cSl o 3 Timer.cells)) (g := (cSl false 3 Timer.cells)) (frz_cSl frz_Timer) x.W.Far]
  rw [frzMap (f := Timer.cells) (g := Timer.cells) frz_Timer x.W.Rest]
  rw [frzMap (f := Timer.cells) (g := Timer.cells) frz_Timer x.Due]
  rw [frzMap (f := (Item.cells o)) (g := (Item.cells false)) frz_Item x.Queue]
  rw [frzMap (f := (Item.cells o)) (g := (Item.cells false)) frz_Item x.Out]
  rw [frzMap (f := (Task.cells o)) (g := (Task.cells false)) frz_Task x.Tasks]
  rw [frzMap (f := (Deed.cells o)) (g := (Deed.cells false)) frz_Deed x.Deeds]
  rfl
def World.bd (M : Nat) (x : World) : Prop := Conf.bd M x.C ∧ bdS Stripe.bd M x.St ∧ bdS Verdict.bd M x.Cache ∧ Wheel.bd M x.W ∧ bdS Timer.bd M x.Due ∧ bdS Item.bd M x.Queue ∧ bdS Item.bd M x.Out ∧ bdS Task.bd M x.Tasks ∧ bdS Deed.bd M x.Deeds
def World.rg (x : World) : Prop := I64 x.C.Stripes ∧ I64 x.C.Wait ∧ I64 x.C.Budget ∧ I64 x.C.Cache ∧ I64 x.C.Queue ∧ I64 x.C.Rate ∧ I64 x.C.Burst ∧ I64 x.C.Rule.Kind ∧ I64 x.C.Rule.N ∧ (x.C.Rule.Key).size ≤ 9223372036854775807 ∧ (x.C.Rule.Text).size ≤ 9223372036854775807 ∧ ((x.C.Rule.L).length ≤ 9223372036854775807 ∧ ∀ y ∈ x.C.Rule.L, True) ∧ I64 x.Time ∧ True ∧ ((x.St).length ≤ 9223372036854775807 ∧ ∀ y ∈ x.St, Stripe.rg y) ∧ I64 x.RuleHeld ∧ I64 x.B.Rate ∧ I64 x.B.Burst ∧ I64 x.B.Tokens ∧ I64 x.B.At ∧ ((x.Cache).length ≤ 9223372036854775807 ∧ ∀ y ∈ x.Cache, Verdict.rg y) ∧ I64 x.Used ∧ I64 x.W.Now ∧ ((x.W.Near).length ≤ 9223372036854775807 ∧ ∀ y ∈ x.W.Near, ((y).length ≤ 9223372036854775807 ∧ ∀ yy ∈ y, Timer.rg yy)) ∧ ((x.W.Far).length ≤ 9223372036854775807 ∧ ∀ y ∈ x.W.Far, ((y).length ≤ 9223372036854775807 ∧ ∀ yy ∈ y, Timer.rg yy)) ∧ ((x.W.Rest).length ≤ 9223372036854775807 ∧ ∀ y ∈ x.W.Rest, Timer.rg y) ∧ ((x.Due).length ≤ 9223372036854775807 ∧ ∀ y ∈ x.Due, Timer.rg y) ∧ ((x.Queue).length ≤ 9223372036854775807 ∧ ∀ y ∈ x.Queue, Item.rg y) ∧ ((x.Out).length ≤ 9223372036854775807 ∧ ∀ y ∈ x.Out, Item.rg y) ∧ ((x.Tasks).length ≤ 9223372036854775807 ∧ ∀ y ∈ x.Tasks, Task.rg y) ∧ ((x.Deeds).length ≤ 9223372036854775807 ∧ ∀ y ∈ x.Deeds, Deed.rg y) ∧ I64 x.Next ∧ True
theorem rg_World {o : Bool} {x : World} (h : fitL (World.cells o x)) : World.rg x := ⟨(range_of_fit h.1), (range_of_fit h.2.1), (range_of_fit h.2.2.1), (range_of_fit h.2.2.2.1), (range_of_fit h.2.2.2.2.1), (range_of_fit h.2.2.2.2.2.1), (range_of_fit h.2.2.2.2.2.2.1), (range_of_fit h.2.2.2.2.2.2.2.1), (range_of_fit h.2.2.2.2.2.2.2.2.1), (Nat.le_of_ble_eq_true h.2.2.2.2.2.2.2.2.2.1), (Nat.le_of_ble_eq_true h.2.2.2.2.2.2.2.2.2.2.1), ⟨by simpa using h.2.2.2.2.2.2.2.2.2.2.2.1.1, fun y0 hy0 => trivial⟩, (range_of_fit h.2.2.2.2.2.2.2.2.2.2.2.2.1), trivial, ⟨by simpa using h.2.2.2.2.2.2.2.2.2.2.2.2.2.2.1.1, fun y0 hy0 => (rg_Stripe (fitLL_map h.2.2.2.2.2.2.2.2.2.2.2.2.2.2.1.2 y0 hy0))⟩, (range_of_fit h.2.2.2.2.2.2.2.2.2.2.2.2.2.2.2.1), (range_of_fit h.2.2.2.2.2.2.2.2.2.2.2.2.2.2.2.2.1), (range_of_fit h.2.2.2.2.2.2.2.2.2.2.2.2.2.2.2.2.2.1), (range_of_fit h.2.2.2.2.2.2.2.2.2.2.2.2.2.2.2.2.2.2.1), (range_of_fit h.2.2.2.2.2.2.2.2.2.2.2.2.2.2.2.2.2.2.2.1), ⟨by simpa using h.2.2.2.2.2.2.2.2.2.2.2.2.2.2.2.2.2.2.2.2.1.1, fun y0 hy0 => (rg_Verdict (fitLL_map h.2.2.2.2.2.2.2.2.2.2.2.2.2.2.2.2.2.2.2.2.1.2 y0 hy0))⟩, (range_of_fit h.2.2.2.2.2.2.2.2.2.2.2.2.2.2.2.2.2.2.2.2.2.1), (range_of_fit h.2.2.2.2.2.2.2.2.2.2.2.2.2.2.2.2.2.2.2.2.2.2.1), ⟨by simpa using h.2.2.2.2.2.2.2.2.2.2.2.2.2.2.2.2.2.2.2.2.2.2.2.1.1, fun y0 hy0 => ⟨by simpa using (fitLL_map h.2.2.2.2.2.2.2.2.2.2.2.2.2.2.2.2.2.2.2.2.2.2.2.1.2 y0 hy0).1.1, fun y1 hy1 => (rg_Timer (fitLL_map (fitLL_map h.2.2.2.2.2.2.2.2.2.2.2.2.2.2.2.2.2.2.2.2.2.2.2.1.2 y0 hy0).1.2 y1 hy1))⟩⟩, ⟨by simpa using h.2.2.2.2.2.2.2.2.2.2.2.2.2.2.2.2.2.2.2.2.2.2.2.2.1.1, fun y0 hy0 => ⟨by simpa using (fitLL_map h.2.2.2.2.2.2.2.2.2.2.2.2.2.2.2.2.2.2.2.2.2.2.2.2.1.2 y0 hy0).1.1, fun y1 hy1 => (rg_Timer (fitLL_map (fitLL_map h.2.2.2.2.2.2.2.2.2.2.2.2.2.2.2.2.2.2.2.2.2.2.2.2.1.2 y0 hy0).1.2 y1 hy1))⟩⟩, ⟨by simpa using h.2.2.2.2.2.2.2.2.2.2.2.2.2.2.2.2.2.2.2.2.2.2.2.2.2.1.1, fun y0 hy0 => (rg_Timer (fitLL_map h.2.2.2.2.2.2.2.2.2.2.2.2.2.2.2.2.2.2.2.2.2.2.2.2.2.1.2 y0 hy0))⟩, ⟨by simpa using h.2.2.2.2.2.2.2.2.2.2.2.2.2.2.2.2.2.2.2.2.2.2.2.2.2.2.1.1, fun y0 hy0 => (rg_Timer (fitLL_map h.2.2.2.2.2.2.2.2.2.2.2.2.2.2.2.2.2.2.2.2.2.2.2.2.2.2.1.2 y0 hy0))⟩, ⟨by simpa using h.2.2.2.2.2.2.2.2.2.2.2.2.2.2.2.2.2.2.2.2.2.2.2.2.2.2.2.1.1, fun y0 hy0 => (rg_Item (fitLL_map h.2.2.2.2.2.2.2.2.2.2.2.2.2.2.2.2.2.2.2.2.2.2.2.2.2.2.2.1.2 y0 hy0))⟩, ⟨by simpa using h.2.2.2.2.2.2.2.2.2.2.2.2.2.2.2.2.2.2.2.2.2.2.2.2.2.2.2.2.1.1, fun y0 hy0 => (rg_Item (fitLL_map h.2.2.2.2.2.2.2.2.2.2.2.2.2.2.2.2.2.2.2.2.2.2.2.2.2.2.2.2.1.2 y0 hy0))⟩, ⟨by simpa using h.2.2.2.2.2.2.2.2.2.2.2.2.2.2.2.2.2.2.2.2.2.2.2.2.2.2.2.2.2.1.1, fun y0 hy0 => (rg_Task (fitLL_map h.2.2.2.2.2.2.2.2.2.2.2.2.2.2.2.2.2.2.2.2.2.2.2.2.2.2.2.2.2.1.2 y0 hy0))⟩, ⟨by simpa using h.2.2.2.2.2.2.2.2.2.2.2.2.2.2.2.2.2.2.2.2.2.2.2.2.2.2.2.2.2.2.1.1, fun y0 hy0 => (rg_Deed (fitLL_map h.2.2.2.2.2.2.2.2.2.2.2.2.2.2.2.2.2.2.2.2.2.2.2.2.2.2.2.2.2.2.1.2 y0 hy0))⟩, (range_of_fit h.2.2.2.2.2.2.2.2.2.2.2.2.2.2.2.2.2.2.2.2.2.2.2.2.2.2.2.2.2.2.2.1), trivial⟩
theorem World.rg.C {x : World} (h : World.rg x) : Conf.rg x.C := ⟨h.1, h.2.1, h.2.2.1, h.2.2.2.1, h.2.2.2.2.1, h.2.2.2.2.2.1, h.2.2.2.2.2.2.1, h.2.2.2.2.2.2.2.1, h.2.2.2.2.2.2.2.2.1, h.2.2.2.2.2.2.2.2.2.1, h.2.2.2.2.2.2.2.2.2.2.1, h.2.2.2.2.2.2.2.2.2.2.2.1, trivial⟩
theorem World.rg.Time {x : World} (h : World.rg x) : I64 x.Time := h.2.2.2.2.2.2.2.2.2.2.2.2.1
theorem World.rg.St {x : World} (h : World.rg x) : ((x.St).length ≤ 9223372036854775807 ∧ ∀ y ∈ x.St, Stripe.rg y) := h.2.2.2.2.2.2.2.2.2.2.2.2.2.2.1
theorem World.rg.RuleHeld {x : World} (h : World.rg x) : I64 x.RuleHeld := h.2.2.2.2.2.2.2.2.2.2.2.2.2.2.2.1
theorem World.rg.B {x : World} (h : World.rg x) : Bucket.rg x.B := ⟨h.2.2.2.2.2.2.2.2.2.2.2.2.2.2.2.2.1, h.2.2.2.2.2.2.2.2.2.2.2.2.2.2.2.2.2.1, h.2.2.2.2.2.2.2.2.2.2.2.2.2.2.2.2.2.2.1, h.2.2.2.2.2.2.2.2.2.2.2.2.2.2.2.2.2.2.2.1, trivial⟩
theorem World.rg.Cache {x : World} (h : World.rg x) : ((x.Cache).length ≤ 9223372036854775807 ∧ ∀ y ∈ x.Cache, Verdict.rg y) := h.2.2.2.2.2.2.2.2.2.2.2.2.2.2.2.2.2.2.2.2.1
theorem World.rg.Used {x : World} (h : World.rg x) : I64 x.Used := h.2.2.2.2.2.2.2.2.2.2.2.2.2.2.2.2.2.2.2.2.2.1
theorem World.rg.W {x : World} (h : World.rg x) : Wheel.rg x.W := ⟨h.2.2.2.2.2.2.2.2.2.2.2.2.2.2.2.2.2.2.2.2.2.2.1, h.2.2.2.2.2.2.2.2.2.2.2.2.2.2.2.2.2.2.2.2.2.2.2.1, h.2.2.2.2.2.2.2.2.2.2.2.2.2.2.2.2.2.2.2.2.2.2.2.2.1, h.2.2.2.2.2.2.2.2.2.2.2.2.2.2.2.2.2.2.2.2.2.2.2.2.2.1, trivial⟩
theorem World.rg.Due {x : World} (h : World.rg x) : ((x.Due).length ≤ 9223372036854775807 ∧ ∀ y ∈ x.Due, Timer.rg y) := h.2.2.2.2.2.2.2.2.2.2.2.2.2.2.2.2.2.2.2.2.2.2.2.2.2.2.1
theorem World.rg.Queue {x : World} (h : World.rg x) : ((x.Queue).length ≤ 9223372036854775807 ∧ ∀ y ∈ x.Queue, Item.rg y) := h.2.2.2.2.2.2.2.2.2.2.2.2.2.2.2.2.2.2.2.2.2.2.2.2.2.2.2.1
theorem World.rg.Out {x : World} (h : World.rg x) : ((x.Out).length ≤ 9223372036854775807 ∧ ∀ y ∈ x.Out, Item.rg y) := h.2.2.2.2.2.2.2.2.2.2.2.2.2.2.2.2.2.2.2.2.2.2.2.2.2.2.2.2.1
theorem World.rg.Tasks {x : World} (h : World.rg x) : ((x.Tasks).length ≤ 9223372036854775807 ∧ ∀ y ∈ x.Tasks, Task.rg y) := h.2.2.2.2.2.2.2.2.2.2.2.2.2.2.2.2.2.2.2.2.2.2.2.2.2.2.2.2.2.1
theorem World.rg.Deeds {x : World} (h : World.rg x) : ((x.Deeds).length ≤ 9223372036854775807 ∧ ∀ y ∈ x.Deeds, Deed.rg y) := h.2.2.2.2.2.2.2.2.2.2.2.2.2.2.2.2.2.2.2.2.2.2.2.2.2.2.2.2.2.2.1
theorem World.rg.Next {x : World} (h : World.rg x) : I64 x.Next := h.2.2.2.2.2.2.2.2.2.2.2.2.2.2.2.2.2.2.2.2.2.2.2.2.2.2.2.2.2.2.2.1
theorem Pol.dep_L (x : Pol) : Pol.dep x = Pol.depL x.L + 1 := by cases x; rfl
theorem wrapD (n : Int) : IntKind.i64.wrap n = if 9223372036854775808 ≤ n % 18446744073709551616 then n % 18446744073709551616 - 18446744073709551616 else n % 18446744073709551616 := by
  simp [IntKind.wrap, IntKind.bits, IntKind.signed]
theorem wrap_wrap_add (a b : Int) : IntKind.i64.wrap (IntKind.i64.wrap a + b) = IntKind.i64.wrap (a + b) := by
  rw [wrapD, wrapD, wrapD]
  split <;> split <;> split <;> omega
theorem wrap_add_wrap (a b : Int) : IntKind.i64.wrap (a + IntKind.i64.wrap b) = IntKind.i64.wrap (a + b) := by
  rw [Int.add_comm, wrap_wrap_add, Int.add_comm]
theorem wrap_idem (a : Int) : IntKind.i64.wrap (IntKind.i64.wrap a) = IntKind.i64.wrap a := by
  have := wrap_wrap_add a 0
  simpa using this
def isum {α : Type} (f : α → Int) : List α → Int
  | [] => 0
  | a :: l => f a + isum f l
theorem isum_append {α : Type} (f : α → Int) : ∀ (l m : List α), isum f (l ++ m) = isum f l + isum f m
  | [], m => by simp [isum]
  | a :: l, m => by simp only [List.cons_append, isum, isum_append f l m]; omega
theorem isum_flat {α β : Type} (f : β → Int) (g : α → List β) : ∀ l : List α, isum f (l.flatMap g) = isum (fun a => isum f (g a)) l
  | [] => rfl
  | a :: l => by rw [List.flatMap_cons, isum_append, isum, isum_flat f g l]
theorem sum_loop {α ρ : Type} {f : α → Int} {b : Nat → Int → α → Step Int ρ} : ∀ (l : List α) (i : Nat) (s : Int), IntKind.i64.wrap s = s → (∀ i s, ∀ a ∈ l, IntKind.i64.wrap s = s → b i s a = .next (IntKind.i64.wrap (s + f a))) → loopL b i s l = .fin (IntKind.i64.wrap (s + isum f l))
  | [], i, s, hs, hb => by simp [loopL, isum, hs]
  | a :: l, i, s, hs, hb => by
    unfold loopL
    rw [hb i s a (by simp) hs]
    simp only
    rw [sum_loop l (i + 1) _ (wrap_idem _) (fun i s x hx => hb i s x (by simp [hx])), wrap_wrap_add, isum, Int.add_assoc]
theorem app_loop {α β ρ : Type} {f : α → List β} {b : Nat → List β → α → Step (List β) ρ} (hb : ∀ i s a, b i s a = .next (s ++ f a)) : ∀ (l : List α) (i : Nat) (s : List β), loopL b i s l = .fin (s ++ l.flatMap f)
  | [], i, s => by simp [loopL]
  | a :: l, i, s => by
    unfold loopL
    rw [hb]
    simp only
    rw [app_loop hb l (i + 1), List.flatMap_cons, List.append_assoc]
theorem wrap_len {n : Nat} (h : n ≤ 9223372036854775807) : IntKind.i64.wrap ((n : Nat) : Int) = ((n : Nat) : Int) := Go.Ev.wrap_small (by omega) (by omega)
def ntInv (s : ByteArray × Int) : Prop := (s.1.size = 0 ∧ s.2.natAbs ≤ 9223372036854775808) ∨ s.1.size + s.2.natAbs ≤ 4611686018427387904
def ntM (s : ByteArray × Int) : Nat := s.2.natAbs
theorem size_str1 (c : Int) : (strOfNums [c]).size = 1 := rfl
theorem nt_abs {x : Int} (h : x.natAbs ≤ 9223372036854775808) : (IntKind.i64.wrap (x.tdiv 10)).natAbs = x.natAbs / 10 := by
  have e : (x.tdiv 10).natAbs = x.natAbs / 10 := by rw [Int.natAbs_tdiv]; rfl
  generalize x.tdiv 10 = q at e ⊢
  have hq : q.natAbs ≤ 922337203685477580 := by omega
  have hq1 : -9223372036854775808 ≤ q := by clear e; omega
  have hq2 : q ≤ 9223372036854775807 := by clear e; omega
  rw [Go.Ev.wrap_small hq1 hq2, e]
theorem nt_step {s : ByteArray} {x c : Int} (h : ntInv (s, x)) (hx : x ≠ 0) : ntInv (strOfNums [c] ++ s, IntKind.i64.wrap (x.tdiv 10)) ∧ ntM (strOfNums [c] ++ s, IntKind.i64.wrap (x.tdiv 10)) < ntM (s, x) := by
  unfold ntInv ntM at *
  simp only at h ⊢
  rw [nt_abs (by omega), ByteArray.size_append, size_str1]
  omega
theorem nt_cat {s : ByteArray} {x c : Int} (h : ntInv (s, x)) (hx : (x != 0) = true) : (((strOfNums [c]).size + s.size : Nat) : Int) ≤ 9223372036854775807 := by
  unfold ntInv at h
  simp only [bne_iff_ne] at h hx
  rw [size_str1]
  omega
theorem nt_cat2 {s : ByteArray} {x : Int} {b : UInt8} (h : ntInv (s, x)) : (((ByteArray.mk #[b]).size + s.size : Nat) : Int) ≤ 9223372036854775807 := by
  unfold ntInv at h
  simp only at h
  have : (ByteArray.mk #[b]).size = 1 := rfl
  omega
def mtInv (s : Int × ByteArray) : Prop := ntInv (s.2, s.1)
def mtM (s : Int × ByteArray) : Nat := ntM (s.2, s.1)
theorem mt_ne {x : Int} (h : decide (x > 0) = true) : x ≠ 0 := by have : x > 0 := by simpa using h
                                                                  omega
theorem mt_step {s : Int × ByteArray} {c : Int} (h : mtInv s) (hx : decide (s.1 > 0) = true) : mtInv (IntKind.i64.wrap (s.1.tdiv 10), strOfNums [c] ++ s.2) ∧ mtM (IntKind.i64.wrap (s.1.tdiv 10), strOfNums [c] ++ s.2) < mtM s := nt_step h (mt_ne hx)
theorem mt_cat {s : Int × ByteArray} {c : Int} (h : mtInv s) (hx : decide (s.1 > 0) = true) : (((strOfNums [c]).size + s.2.size : Nat) : Int) ≤ 9223372036854775807 := nt_cat h (by simpa using mt_ne hx)
theorem mt_cat2 {s : Int × ByteArray} {b : UInt8} (h : mtInv s) : (((ByteArray.mk #[b]).size + s.2.size : Nat) : Int) ≤ 9223372036854775807 := nt_cat2 h
def laws_markText_b1 (s1 : Int × ByteArray) : Step (Int × ByteArray) ByteArray :=
  (bif (decide (s1.1 > 0)) then (.next ((IntKind.i64.wrap (Int.tdiv s1.1 10)), ((strOfNums [(IntKind.u8.wrap (IntKind.i64.wrap (48 + (Int.tmod s1.1 10))))]) ++ s1.2))) else (.stop (s1.1, s1.2)))
def laws_markText (p0 : Int) : ByteArray :=
  (bif (decide (p0 ≤ 0)) then (ByteArray.mk #[109, 48]) else (Fin.get (fun s1 => ((ByteArray.mk #[109]) ++ s1.2)) (loopW laws_markText_b1 (mtM (p0, (ByteArray.mk #[]))) (p0, (ByteArray.mk #[])))))
theorem cr_laws_markText (p0 : Int) (hr0 : I64 p0) : FnOk prog 104 [.one (.v (.int .i64 p0))] ⟨.one (.v (.string (laws_markText p0))), [], [], false⟩ := by
  refine FnOk.intro (E := env) envOk wide func104 rfl (by kernel_rfl) rfl rfl ?_
  have hg := laws_markText.eq_1 p0
  have hown : ∀ g : ByteArray, AV.Own (AV.one (.v (.string g))) := fun g => .v _
  refine seqE ?_
  refine seqE ?_
  refine seqE ?_
  refine brD hg (fun hg h1 => ?_) (fun hg h1 => ?_)
  · refine seqE ?_
    exact leafE hown hg
  · refine seqE ?_
    refine seqE ?_
    refine loopWE (m := mtM) (s0 := (p0, (ByteArray.mk #[]))) mtInv hg (by left; have := hr0.1; have := hr0.2; exact ⟨rfl, by show Int.natAbs p0 ≤ _; omega⟩) [] (fun x1 => [(0, .one (.v (.int .i64 x1.s.1))), (3, .one (.v (.string x1.s.2)))]) (fun x1 => []) [] ?_ (fun x1 => ?_)
    · exact ⟨rfl, ⟨rfl, rfl, trivial⟩, trivial, trivial⟩
    have hI1 := x1.hI
    try dsimp only at hI1
    have hb1 := x1.bdy.trans (laws_markText_b1.eq_1 ..)
    refine seqE ?_
    refine seqE ?_
    refine brD hb1 (fun hb1 h2 => ?_) (fun hb1 h2 => ?_)
    · refine seqE ?_
      refine andE (by (first | omega | (simp (disch := omega) only [wrap_small, mid_eq, List.length_map]; omega) | (simp; done) | (simp; omega) | (simp at *; omega) | (simp at *; done) | (simp_all; done) | (simp_all; omega))) ?_
      refine litE (m := 0) rfl ?_
      refine andE (by first | exact mt_cat x1.hI (by assumption) | exact mt_cat2 x1.hI) ?_
      refine andE (by (first | omega | (simp (disch := omega) only [wrap_small, mid_eq, List.length_map]; omega) | (simp; done) | (simp; omega) | (simp at *; omega) | (simp at *; done) | (simp_all; done) | (simp_all; omega))) ?_
      exact x1.goE hb1 (show mtInv ((IntKind.i64.wrap (Int.tdiv x1.s.1 10)), ((strOfNums [(IntKind.u8.wrap (IntKind.i64.wrap (48 + (Int.tmod x1.s.1 10))))]) ++ x1.s.2)) ∧ mtM ((IntKind.i64.wrap (Int.tdiv x1.s.1 10)), ((strOfNums [(IntKind.u8.wrap (IntKind.i64.wrap (48 + (Int.tmod x1.s.1 10))))]) ++ x1.s.2)) < mtM x1.s by exact mt_step x1.hI (by first | assumption | (simpa using h3) | (simpa using h2))) [] ⟨rfl, ⟨rfl, rfl, trivial⟩, trivial, trivial⟩
    · have hg := finE hg (x1.outS hb1)
      refine seqE ?_
      refine andE (by first | exact mt_cat x1.hI (by assumption) | exact mt_cat2 x1.hI) ?_
      exact leafE hown hg
theorem c_laws_markText (p0 : Int) : FnOk prog 104 [.one (.v (.int .i64 p0))] ⟨.one (.v (.string (laws_markText p0))), [], [], false⟩ :=
  FnOk.fits ⟨_, func104, by kernel_rfl, by kernel_rfl⟩ (fun hf => cr_laws_markText p0 (range_of_fit hf.1))
def laws_szPolS_b1 (r0 : (Pol → Int → Int)) (i1 : Nat) (s1 : Int) (a1 : Pol) : Step (Int) Int :=
  (bif (decide ((r0 a1 s1) < 0)) then (.done (-1)) else (.next (r0 a1 s1)))
def laws_szPolS (r0 : Pol → Int → Int) (p0 : (List Pol)) (p1 : Int) : Int :=
  (bif (decide ((IntKind.i64.wrap (p1 - (((p0).length : Nat) : Int))) < 0)) then (-1) else (Fin.get (fun s1 => s1) (loopL (laws_szPolS_b1 r0) 0 (IntKind.i64.wrap (p1 - (((p0).length : Nat) : Int))) p0)))
theorem c_laws_szPolS (r0 : Pol → Int → Int) (p0 : (List Pol)) (p1 : Int) (m0 : Nat) (hrec0 : ∀ (z0 : Pol) (z1 : Int), Pol.dep z0 < m0 → FnOk prog 46 [.agg (Pol.opn false z0), .one (.v (.int .i64 z1))] ⟨.one (.v (.int .i64 (r0 z0 z1))), [], [], false⟩) (hm0 : ∀ x ∈ p0, Pol.dep x < m0) : FnOk prog 105 [.one (.s false 5 (List.map (Pol.cells false) p0)), .one (.v (.int .i64 p1))] ⟨.one (.v (.int .i64 (laws_szPolS r0 p0 p1))), [], [], false⟩ := by
  refine FnOk.intro (E := env) envOk wide func105 rfl (by kernel_rfl) rfl rfl ?_
  have hg := laws_szPolS.eq_1 r0 p0 p1
  have hown : ∀ g : Int, AV.Own (AV.one (.v (.int .i64 g))) := fun g => .v _
  refine seqE ?_
  refine seqE ?_
  refine lenM fun hN1 => ?_
  refine seqE ?_
  refine seqE ?_
  refine brD hg (fun hg h2 => ?_) (fun hg h2 => ?_)
  · refine seqE ?_
    exact leafE hown hg
  · refine seqE ?_
    refine seqE ?_
    refine loopLE hg [0] (fun x1 => [(1, .one (.v (.int .i64 x1.s))), (5, .one (.v (.int .i64 ((x1.i : Nat) : Int))))]) (fun x1 => []) [] ?_ (fun x1 => ?_)
    · exact ⟨rfl, ⟨rfl, rfl, rfl, trivial⟩, trivial, trivial⟩
    refine seqE ?_
    refine seqE ?_
    refine lenM fun hN3 => ?_
    refine tstL (fun hi1 => ?_) (fun hi1 => ?_)
    · have hb1 := (x1.bdy hi1).trans (laws_szPolS_b1.eq_1 ..)
      have hw1 := wrap_succ hi1 (by first | assumption | omega)
      refine seqE ?_
      refine seqE ?_
      refine idxAtR (Pol.cells_eq false) hi1 ?_
      refine .inl (⟨_, _, hrec0 (p0[x1.i]'hi1) x1.s (by first | exact hm0 _ (List.getElem_mem _) | exact hm0 _ (List.mem_of_getElem? (by assumption)) | exact Nat.lt_of_lt_of_le (Pol.dep_lt (List.getElem_mem _)) (Nat.le_of_lt_succ hd0) | exact Nat.lt_of_lt_of_le (Pol.dep_lt (List.mem_of_getElem? (by assumption))) (Nat.le_of_lt_succ hd0)), (FzAs.same _), ?_⟩)
      refine litE (m := 1) rfl ?_
      refine seqE ?_
      refine brD hb1 (fun hb1 h4 => ?_) (fun hb1 h4 => x1.goE hi1 hb1 [] ⟨rfl, ⟨rfl, (eqInt hw1), rfl, trivial⟩, trivial, trivial⟩)
      refine seqE ?_
      have hg := donE hg (x1.outD hi1 hb1)
      exact leafE hown hg
    have hg := finE hg (x1.fin hi1)
    refine seqE ?_
    exact leafE hown hg
def laws_szPolR : Nat → Pol → Int → Int
  | 0, _, _ => default
  | n + 1, p0, p1 => (bif (decide ((IntKind.i64.wrap (p1 - (((p0.Key).size : Nat) : Int))) < 0)) then (-1) else (bif (decide ((IntKind.i64.wrap ((IntKind.i64.wrap (p1 - (((p0.Key).size : Nat) : Int))) - (((p0.Text).size : Nat) : Int))) < 0)) then (-1) else (bif (decide ((laws_szPolS (laws_szPolR n) p0.L (IntKind.i64.wrap ((IntKind.i64.wrap (p1 - (((p0.Key).size : Nat) : Int))) - (((p0.Text).size : Nat) : Int)))) < 0)) then (-1) else (laws_szPolS (laws_szPolR n) p0.L (IntKind.i64.wrap ((IntKind.i64.wrap (p1 - (((p0.Key).size : Nat) : Int))) - (((p0.Text).size : Nat) : Int)))))))
theorem cR_laws_szPol : ∀ (n : Nat) (p0 : Pol) (p1 : Int), Pol.dep p0 < n → FnOk prog 46 [.agg (Pol.opn false p0), .one (.v (.int .i64 p1))] ⟨.one (.v (.int .i64 (laws_szPolR n p0 p1))), [], [], false⟩ := by
  intro n
  induction n with
  | zero => intro p0 p1 hd0; omega
  | succ n ih =>
    intro p0 p1 hd0
    refine FnOk.intro (E := env) envOk wide func46 rfl (by kernel_rfl) rfl rfl ?_
    have hg : laws_szPolR (n + 1) p0 p1 = _ := laws_szPolR.eq_2 ..
    have hown : ∀ g : Int, AV.Own (AV.one (.v (.int .i64 g))) := fun g => .v _
    refine seqE ?_
    refine litE (m := 0) rfl ?_
    refine seqE ?_
    refine lenS fun hN1 => ?_
    refine seqE ?_
    refine seqE ?_
    refine brD hg (fun hg h2 => ?_) (fun hg h2 => ?_)
    · refine seqE ?_
      exact leafE hown hg
    · refine seqE ?_
      refine lenS fun hN3 => ?_
      refine seqE ?_
      refine seqE ?_
      refine brD hg (fun hg h4 => ?_) (fun hg h4 => ?_)
      · refine seqE ?_
        exact leafE hown hg
      · refine seqE ?_
        refine .inl (⟨_, _, c_laws_szPolS (laws_szPolR n) p0.L (IntKind.i64.wrap ((IntKind.i64.wrap (p1 - (((p0.Key).size : Nat) : Int))) - (((p0.Text).size : Nat) : Int))) n ih (by first | exact hm0 | exact fun x hx => Nat.lt_of_lt_of_le (Pol.dep_lt hx) (Nat.le_of_lt_succ hd0)), (FzAs.same _), ?_⟩)
        refine litE (m := 2) rfl ?_
        refine seqE ?_
        refine seqE ?_
        refine brD hg (fun hg h5 => ?_) (fun hg h5 => ?_)
        · refine seqE ?_
          exact leafE hown hg
        · refine seqE ?_
          exact leafE hown hg
def laws_szPol (p0 : Pol) (p1 : Int) : Int := laws_szPolR (Pol.dep p0 + 1) p0 p1
theorem c_laws_szPol (p0 : Pol) (p1 : Int) : FnOk prog 46 [.agg (Pol.opn false p0), .one (.v (.int .i64 p1))] ⟨.one (.v (.int .i64 (laws_szPol p0 p1))), [], [], false⟩ := cR_laws_szPol _ p0 p1 (Nat.lt_succ_self _)
theorem szdR_laws_szPol : ∀ (n : Nat) (x : Pol), Pol.dep x < n → SzdAt Pol.bd (laws_szPolR n) x := by
  intro n
  induction n with
  | zero => intro x h; omega
  | succ n ih =>
    intro x h left hb h0 h1 h2
    have hS := szS_okM (P := Pol.bd) (f := laws_szPolR n) (b := laws_szPolS_b1 (laws_szPolR n)) (g := laws_szPolS (laws_szPolR n)) (fun _ _ _ => rfl) (fun _ _ => rfl) x.L (fun a ha => ih a (Nat.lt_of_lt_of_le (Pol.dep_lt ha) (Nat.le_of_lt_succ h)))
    have eqn : laws_szPolR (n + 1) x left = _ := rfl
    simp only [laws_szPolR] at h2 ⊢
    clear eqn
    rw [Pol.bd_eq] at hb ⊢
    cases c0 : decide ((IntKind.i64.wrap (left - (((x.Key).size : Nat) : Int))) < 0) with
    | true => simp [c0] at h2
    | false =>
    have p0 : 0 ≤ (IntKind.i64.wrap (left - (((x.Key).size : Nat) : Int))) := by simpa using c0
    have w0 : (IntKind.i64.wrap (left - (((x.Key).size : Nat) : Int))) = left - (((x.Key).size : Nat) : Int) := by have := hb.1; rw [Go.Ev.wrap_small] <;> omega
    have b0 : (x.Key).size ≤ 1048576 := by omega
    have u0 : (IntKind.i64.wrap (left - (((x.Key).size : Nat) : Int))) ≤ left := by omega
    have v0 : (IntKind.i64.wrap (left - (((x.Key).size : Nat) : Int))) ≤ 1048576 := by omega
    cases c1 : decide ((IntKind.i64.wrap ((IntKind.i64.wrap (left - (((x.Key).size : Nat) : Int))) - (((x.Text).size : Nat) : Int))) < 0) with
    | true => simp [c0, c1] at h2
    | false =>
    have p1 : 0 ≤ (IntKind.i64.wrap ((IntKind.i64.wrap (left - (((x.Key).size : Nat) : Int))) - (((x.Text).size : Nat) : Int))) := by simpa using c1
    have w1 : (IntKind.i64.wrap ((IntKind.i64.wrap (left - (((x.Key).size : Nat) : Int))) - (((x.Text).size : Nat) : Int))) = (IntKind.i64.wrap (left - (((x.Key).size : Nat) : Int))) - (((x.Text).size : Nat) : Int) := by have := hb.2.1; rw [Go.Ev.wrap_small] <;> omega
    have b1 : (x.Text).size ≤ 1048576 := by omega
    have u1 : (IntKind.i64.wrap ((IntKind.i64.wrap (left - (((x.Key).size : Nat) : Int))) - (((x.Text).size : Nat) : Int))) ≤ (IntKind.i64.wrap (left - (((x.Key).size : Nat) : Int))) := by omega
    have v1 : (IntKind.i64.wrap ((IntKind.i64.wrap (left - (((x.Key).size : Nat) : Int))) - (((x.Text).size : Nat) : Int))) ≤ 1048576 := by omega
    cases c2 : decide ((laws_szPolS (laws_szPolR n) x.L (IntKind.i64.wrap ((IntKind.i64.wrap (left - (((x.Key).size : Nat) : Int))) - (((x.Text).size : Nat) : Int)))) < 0) with
    | true => simp [c0, c1, c2] at h2
    | false =>
    have p2 : 0 ≤ (laws_szPolS (laws_szPolR n) x.L (IntKind.i64.wrap ((IntKind.i64.wrap (left - (((x.Key).size : Nat) : Int))) - (((x.Text).size : Nat) : Int)))) := by simpa using c2
    have z2 := hS (IntKind.i64.wrap ((IntKind.i64.wrap (left - (((x.Key).size : Nat) : Int))) - (((x.Text).size : Nat) : Int))) hb.2.2 p1 v1 p2
    have b2 := z2.1
    have u2 := z2.2
    have v2 : (laws_szPolS (laws_szPolR n) x.L (IntKind.i64.wrap ((IntKind.i64.wrap (left - (((x.Key).size : Nat) : Int))) - (((x.Text).size : Nat) : Int)))) ≤ 1048576 := by omega
    simp only [c0, c1, c2, cond_false] at h2 ⊢
    exact ⟨⟨b0, b1, b2⟩, by omega⟩
theorem szd_laws_szPol : Szd Pol.bd laws_szPol := fun x left => szdR_laws_szPol _ x (Nat.lt_succ_self _) left
def laws_szConf (p0 : Conf) (p1 : Int) : Int :=
  (bif (decide ((laws_szPol p0.Rule p1) < 0)) then (-1) else (laws_szPol p0.Rule p1))
theorem c_laws_szConf (p0 : Conf) (p1 : Int) : FnOk prog 16 [.agg ((Conf.cells false) p0), .one (.v (.int .i64 p1))] ⟨.one (.v (.int .i64 (laws_szConf p0 p1))), [], [], false⟩ := by
  refine FnOk.intro (E := env) envOk wide func16 rfl (by kernel_rfl) rfl rfl ?_
  have hg := laws_szConf.eq_1 p0 p1
  have hown : ∀ g : Int, AV.Own (AV.one (.v (.int .i64 g))) := fun g => .v _
  refine seqE ?_
  refine litE (m := 0) rfl ?_
  refine seqE ?_
  refine .inl (⟨_, _, c_laws_szPol p0.Rule p1, (FzAs.same _), ?_⟩)
  refine litE (m := 2) rfl ?_
  refine seqE ?_
  refine seqE ?_
  refine brD hg (fun hg h1 => ?_) (fun hg h1 => ?_)
  · refine seqE ?_
    exact leafE hown hg
  · refine seqE ?_
    exact leafE hown hg
theorem szd_laws_szConf : Szd Conf.bd laws_szConf := by
  intro x left hb h0 h1 h2
  unfold laws_szConf at h2 ⊢
  unfold Conf.bd at hb ⊢
  cases c0 : decide ((laws_szPol x.Rule left) < 0) with
  | true => simp [c0] at h2
  | false =>
  have p0 : 0 ≤ (laws_szPol x.Rule left) := by simpa using c0
  have z0 := szd_laws_szPol x.Rule left hb h0 h1 p0
  have b0 := z0.1
  have u0 := z0.2
  have v0 : (laws_szPol x.Rule left) ≤ 1048576 := by omega
  simp only [c0, cond_false] at h2 ⊢
  exact ⟨b0, by omega⟩
def laws_szAttr (p0 : Attr) (p1 : Int) : Int :=
  (bif (decide ((IntKind.i64.wrap (p1 - (((p0.Key).size : Nat) : Int))) < 0)) then (-1) else (bif (decide ((IntKind.i64.wrap ((IntKind.i64.wrap (p1 - (((p0.Key).size : Nat) : Int))) - (((p0.Text).size : Nat) : Int))) < 0)) then (-1) else (IntKind.i64.wrap ((IntKind.i64.wrap (p1 - (((p0.Key).size : Nat) : Int))) - (((p0.Text).size : Nat) : Int)))))
theorem c_laws_szAttr (p0 : Attr) (p1 : Int) : FnOk prog 162 [.agg (Attr.cells p0), .one (.v (.int .i64 p1))] ⟨.one (.v (.int .i64 (laws_szAttr p0 p1))), [], [], false⟩ := by
  refine FnOk.intro (E := env) envOk wide func162 rfl (by kernel_rfl) rfl rfl ?_
  have hg := laws_szAttr.eq_1 p0 p1
  have hown : ∀ g : Int, AV.Own (AV.one (.v (.int .i64 g))) := fun g => .v _
  refine seqE ?_
  refine litE (m := 0) rfl ?_
  refine seqE ?_
  refine lenS fun hN1 => ?_
  refine seqE ?_
  refine seqE ?_
  refine brD hg (fun hg h2 => ?_) (fun hg h2 => ?_)
  · refine seqE ?_
    exact leafE hown hg
  · refine seqE ?_
    refine lenS fun hN3 => ?_
    refine seqE ?_
    refine seqE ?_
    refine brD hg (fun hg h4 => ?_) (fun hg h4 => ?_)
    · refine seqE ?_
      exact leafE hown hg
    · refine seqE ?_
      exact leafE hown hg
theorem szd_laws_szAttr : Szd Attr.bd laws_szAttr := by
  intro x left hb h0 h1 h2
  unfold laws_szAttr at h2 ⊢
  unfold Attr.bd at hb ⊢
  cases c0 : decide ((IntKind.i64.wrap (left - (((x.Key).size : Nat) : Int))) < 0) with
  | true => simp [c0] at h2
  | false =>
  have p0 : 0 ≤ (IntKind.i64.wrap (left - (((x.Key).size : Nat) : Int))) := by simpa using c0
  have w0 : (IntKind.i64.wrap (left - (((x.Key).size : Nat) : Int))) = left - (((x.Key).size : Nat) : Int) := by have := hb.1; rw [Go.Ev.wrap_small] <;> omega
  have b0 : (x.Key).size ≤ 1048576 := by omega
  have u0 : (IntKind.i64.wrap (left - (((x.Key).size : Nat) : Int))) ≤ left := by omega
  have v0 : (IntKind.i64.wrap (left - (((x.Key).size : Nat) : Int))) ≤ 1048576 := by omega
  cases c1 : decide ((IntKind.i64.wrap ((IntKind.i64.wrap (left - (((x.Key).size : Nat) : Int))) - (((x.Text).size : Nat) : Int))) < 0) with
  | true => simp [c0, c1] at h2
  | false =>
  have p1 : 0 ≤ (IntKind.i64.wrap ((IntKind.i64.wrap (left - (((x.Key).size : Nat) : Int))) - (((x.Text).size : Nat) : Int))) := by simpa using c1
  have w1 : (IntKind.i64.wrap ((IntKind.i64.wrap (left - (((x.Key).size : Nat) : Int))) - (((x.Text).size : Nat) : Int))) = (IntKind.i64.wrap (left - (((x.Key).size : Nat) : Int))) - (((x.Text).size : Nat) : Int) := by have := hb.2; rw [Go.Ev.wrap_small] <;> omega
  have b1 : (x.Text).size ≤ 1048576 := by omega
  have u1 : (IntKind.i64.wrap ((IntKind.i64.wrap (left - (((x.Key).size : Nat) : Int))) - (((x.Text).size : Nat) : Int))) ≤ (IntKind.i64.wrap (left - (((x.Key).size : Nat) : Int))) := by omega
  have v1 : (IntKind.i64.wrap ((IntKind.i64.wrap (left - (((x.Key).size : Nat) : Int))) - (((x.Text).size : Nat) : Int))) ≤ 1048576 := by omega
  simp only [c0, c1, cond_false] at h2 ⊢
  exact ⟨⟨b0, b1⟩, by omega⟩
def laws_szAttrS_b1 (i1 : Nat) (s1 : Int) (a1 : Attr) : Step (Int) Int :=
  (bif (decide ((laws_szAttr a1 s1) < 0)) then (.done (-1)) else (.next (laws_szAttr a1 s1)))
def laws_szAttrS (p0 : (List Attr)) (p1 : Int) : Int :=
  (bif (decide ((IntKind.i64.wrap (p1 - (((p0).length : Nat) : Int))) < 0)) then (-1) else (Fin.get (fun s1 => s1) (loopL laws_szAttrS_b1 0 (IntKind.i64.wrap (p1 - (((p0).length : Nat) : Int))) p0)))
theorem c_laws_szAttrS (p0 : (List Attr)) (p1 : Int) : FnOk prog 141 [.one (.s false 4 (List.map Attr.cells p0)), .one (.v (.int .i64 p1))] ⟨.one (.v (.int .i64 (laws_szAttrS p0 p1))), [], [], false⟩ := by
  refine FnOk.intro (E := env) envOk wide func141 rfl (by kernel_rfl) rfl rfl ?_
  have hg := laws_szAttrS.eq_1 p0 p1
  have hown : ∀ g : Int, AV.Own (AV.one (.v (.int .i64 g))) := fun g => .v _
  refine seqE ?_
  refine seqE ?_
  refine lenM fun hN1 => ?_
  refine seqE ?_
  refine seqE ?_
  refine brD hg (fun hg h2 => ?_) (fun hg h2 => ?_)
  · refine seqE ?_
    exact leafE hown hg
  · refine seqE ?_
    refine seqE ?_
    refine loopLE hg [0] (fun x1 => [(1, .one (.v (.int .i64 x1.s))), (5, .one (.v (.int .i64 ((x1.i : Nat) : Int))))]) (fun x1 => []) [] ?_ (fun x1 => ?_)
    · exact ⟨rfl, ⟨rfl, rfl, rfl, trivial⟩, trivial, trivial⟩
    refine seqE ?_
    refine seqE ?_
    refine lenM fun hN3 => ?_
    refine tstL (fun hi1 => ?_) (fun hi1 => ?_)
    · have hb1 := (x1.bdy hi1).trans (laws_szAttrS_b1.eq_1 ..)
      have hw1 := wrap_succ hi1 (by first | assumption | omega)
      refine seqE ?_
      refine seqE ?_
      refine idxAt hi1 ?_
      refine .inl (⟨_, _, c_laws_szAttr (p0[x1.i]'hi1) x1.s, (FzAs.same _), ?_⟩)
      refine litE (m := 1) rfl ?_
      refine seqE ?_
      refine brD hb1 (fun hb1 h4 => ?_) (fun hb1 h4 => x1.goE hi1 hb1 [] ⟨rfl, ⟨rfl, (eqInt hw1), rfl, trivial⟩, trivial, trivial⟩)
      refine seqE ?_
      have hg := donE hg (x1.outD hi1 hb1)
      exact leafE hown hg
    have hg := finE hg (x1.fin hi1)
    refine seqE ?_
    exact leafE hown hg
theorem szd_laws_szAttrS : Szd (bdS Attr.bd) laws_szAttrS := szS_ok (b := laws_szAttrS_b1) szd_laws_szAttr (fun _ _ _ => rfl) (fun _ _ => rfl)
def laws_szSpan (p0 : Span) (p1 : Int) : Int :=
  (bif (decide ((laws_szAttrS p0.Attrs p1) < 0)) then (-1) else (laws_szAttrS p0.Attrs p1))
theorem c_laws_szSpan (p0 : Span) (p1 : Int) : FnOk prog 100 [.agg ((Span.cells false) p0), .one (.v (.int .i64 p1))] ⟨.one (.v (.int .i64 (laws_szSpan p0 p1))), [], [], false⟩ := by
  refine FnOk.intro (E := env) envOk wide func100 rfl (by kernel_rfl) rfl rfl ?_
  have hg := laws_szSpan.eq_1 p0 p1
  have hown : ∀ g : Int, AV.Own (AV.one (.v (.int .i64 g))) := fun g => .v _
  refine seqE ?_
  refine litE (m := 0) rfl ?_
  refine seqE ?_
  refine .inl (⟨_, _, c_laws_szAttrS p0.Attrs p1, (FzAs.same _), ?_⟩)
  refine litE (m := 2) rfl ?_
  refine seqE ?_
  refine seqE ?_
  refine brD hg (fun hg h1 => ?_) (fun hg h1 => ?_)
  · refine seqE ?_
    exact leafE hown hg
  · refine seqE ?_
    exact leafE hown hg
theorem szd_laws_szSpan : Szd Span.bd laws_szSpan := by
  intro x left hb h0 h1 h2
  unfold laws_szSpan at h2 ⊢
  unfold Span.bd at hb ⊢
  cases c0 : decide ((laws_szAttrS x.Attrs left) < 0) with
  | true => simp [c0] at h2
  | false =>
  have p0 : 0 ≤ (laws_szAttrS x.Attrs left) := by simpa using c0
  have z0 := szd_laws_szAttrS x.Attrs left hb h0 h1 p0
  have b0 := z0.1
  have u0 := z0.2
  have v0 : (laws_szAttrS x.Attrs left) ≤ 1048576 := by omega
  simp only [c0, cond_false] at h2 ⊢
  exact ⟨b0, by omega⟩
def laws_szSpanS_b1 (i1 : Nat) (s1 : Int) (a1 : Span) : Step (Int) Int :=
  (bif (decide ((laws_szSpan a1 s1) < 0)) then (.done (-1)) else (.next (laws_szSpan a1 s1)))
def laws_szSpanS (p0 : (List Span)) (p1 : Int) : Int :=
  (bif (decide ((IntKind.i64.wrap (p1 - (((p0).length : Nat) : Int))) < 0)) then (-1) else (Fin.get (fun s1 => s1) (loopL laws_szSpanS_b1 0 (IntKind.i64.wrap (p1 - (((p0).length : Nat) : Int))) p0)))
theorem c_laws_szSpanS (p0 : (List Span)) (p1 : Int) : FnOk prog 180 [.one (.s false 6 (List.map (Span.cells false) p0)), .one (.v (.int .i64 p1))] ⟨.one (.v (.int .i64 (laws_szSpanS p0 p1))), [], [], false⟩ := by
  refine FnOk.intro (E := env) envOk wide func180 rfl (by kernel_rfl) rfl rfl ?_
  have hg := laws_szSpanS.eq_1 p0 p1
  have hown : ∀ g : Int, AV.Own (AV.one (.v (.int .i64 g))) := fun g => .v _
  refine seqE ?_
  refine seqE ?_
  refine lenM fun hN1 => ?_
  refine seqE ?_
  refine seqE ?_
  refine brD hg (fun hg h2 => ?_) (fun hg h2 => ?_)
  · refine seqE ?_
    exact leafE hown hg
  · refine seqE ?_
    refine seqE ?_
    refine loopLE hg [0] (fun x1 => [(1, .one (.v (.int .i64 x1.s))), (5, .one (.v (.int .i64 ((x1.i : Nat) : Int))))]) (fun x1 => []) [] ?_ (fun x1 => ?_)
    · exact ⟨rfl, ⟨rfl, rfl, rfl, trivial⟩, trivial, trivial⟩
    refine seqE ?_
    refine seqE ?_
    refine lenM fun hN3 => ?_
    refine tstL (fun hi1 => ?_) (fun hi1 => ?_)
    · have hb1 := (x1.bdy hi1).trans (laws_szSpanS_b1.eq_1 ..)
      have hw1 := wrap_succ hi1 (by first | assumption | omega)
      refine seqE ?_
      refine seqE ?_
      refine idxAt hi1 ?_
      refine .inl (⟨_, _, c_laws_szSpan (p0[x1.i]'hi1) x1.s, (FzAs.same _), ?_⟩)
      refine litE (m := 1) rfl ?_
      refine seqE ?_
      refine brD hb1 (fun hb1 h4 => ?_) (fun hb1 h4 => x1.goE hi1 hb1 [] ⟨rfl, ⟨rfl, (eqInt hw1), rfl, trivial⟩, trivial, trivial⟩)
      refine seqE ?_
      have hg := donE hg (x1.outD hi1 hb1)
      exact leafE hown hg
    have hg := finE hg (x1.fin hi1)
    refine seqE ?_
    exact leafE hown hg
theorem szd_laws_szSpanS : Szd (bdS Span.bd) laws_szSpanS := szS_ok (b := laws_szSpanS_b1) szd_laws_szSpan (fun _ _ _ => rfl) (fun _ _ => rfl)
def laws_szTrail (p0 : Trail) (p1 : Int) : Int :=
  (bif (decide ((laws_szSpanS p0.Spans p1) < 0)) then (-1) else (laws_szSpanS p0.Spans p1))
theorem c_laws_szTrail (p0 : Trail) (p1 : Int) : FnOk prog 172 [.agg ((Trail.cells false) p0), .one (.v (.int .i64 p1))] ⟨.one (.v (.int .i64 (laws_szTrail p0 p1))), [], [], false⟩ := by
  refine FnOk.intro (E := env) envOk wide func172 rfl (by kernel_rfl) rfl rfl ?_
  have hg := laws_szTrail.eq_1 p0 p1
  have hown : ∀ g : Int, AV.Own (AV.one (.v (.int .i64 g))) := fun g => .v _
  refine seqE ?_
  refine litE (m := 0) rfl ?_
  refine seqE ?_
  refine .inl (⟨_, _, c_laws_szSpanS p0.Spans p1, (FzAs.same _), ?_⟩)
  refine litE (m := 2) rfl ?_
  refine seqE ?_
  refine seqE ?_
  refine brD hg (fun hg h1 => ?_) (fun hg h1 => ?_)
  · refine seqE ?_
    exact leafE hown hg
  · refine seqE ?_
    exact leafE hown hg
theorem szd_laws_szTrail : Szd Trail.bd laws_szTrail := by
  intro x left hb h0 h1 h2
  unfold laws_szTrail at h2 ⊢
  unfold Trail.bd at hb ⊢
  cases c0 : decide ((laws_szSpanS x.Spans left) < 0) with
  | true => simp [c0] at h2
  | false =>
  have p0 : 0 ≤ (laws_szSpanS x.Spans left) := by simpa using c0
  have z0 := szd_laws_szSpanS x.Spans left hb h0 h1 p0
  have b0 := z0.1
  have u0 := z0.2
  have v0 : (laws_szSpanS x.Spans left) ≤ 1048576 := by omega
  simp only [c0, cond_false] at h2 ⊢
  exact ⟨b0, by omega⟩
def laws_szTrailS_b1 (i1 : Nat) (s1 : Int) (a1 : Trail) : Step (Int) Int :=
  (bif (decide ((laws_szTrail a1 s1) < 0)) then (.done (-1)) else (.next (laws_szTrail a1 s1)))
def laws_szTrailS (p0 : (List Trail)) (p1 : Int) : Int :=
  (bif (decide ((IntKind.i64.wrap (p1 - (((p0).length : Nat) : Int))) < 0)) then (-1) else (Fin.get (fun s1 => s1) (loopL laws_szTrailS_b1 0 (IntKind.i64.wrap (p1 - (((p0).length : Nat) : Int))) p0)))
theorem c_laws_szTrailS (p0 : (List Trail)) (p1 : Int) : FnOk prog 158 [.one (.s false 4 (List.map (Trail.cells false) p0)), .one (.v (.int .i64 p1))] ⟨.one (.v (.int .i64 (laws_szTrailS p0 p1))), [], [], false⟩ := by
  refine FnOk.intro (E := env) envOk wide func158 rfl (by kernel_rfl) rfl rfl ?_
  have hg := laws_szTrailS.eq_1 p0 p1
  have hown : ∀ g : Int, AV.Own (AV.one (.v (.int .i64 g))) := fun g => .v _
  refine seqE ?_
  refine seqE ?_
  refine lenM fun hN1 => ?_
  refine seqE ?_
  refine seqE ?_
  refine brD hg (fun hg h2 => ?_) (fun hg h2 => ?_)
  · refine seqE ?_
    exact leafE hown hg
  · refine seqE ?_
    refine seqE ?_
    refine loopLE hg [0] (fun x1 => [(1, .one (.v (.int .i64 x1.s))), (5, .one (.v (.int .i64 ((x1.i : Nat) : Int))))]) (fun x1 => []) [] ?_ (fun x1 => ?_)
    · exact ⟨rfl, ⟨rfl, rfl, rfl, trivial⟩, trivial, trivial⟩
    refine seqE ?_
    refine seqE ?_
    refine lenM fun hN3 => ?_
    refine tstL (fun hi1 => ?_) (fun hi1 => ?_)
    · have hb1 := (x1.bdy hi1).trans (laws_szTrailS_b1.eq_1 ..)
      have hw1 := wrap_succ hi1 (by first | assumption | omega)
      refine seqE ?_
      refine seqE ?_
      refine idxAt hi1 ?_
      refine .inl (⟨_, _, c_laws_szTrail (p0[x1.i]'hi1) x1.s, (FzAs.same _), ?_⟩)
      refine litE (m := 1) rfl ?_
      refine seqE ?_
      refine brD hb1 (fun hb1 h4 => ?_) (fun hb1 h4 => x1.goE hi1 hb1 [] ⟨rfl, ⟨rfl, (eqInt hw1), rfl, trivial⟩, trivial, trivial⟩)
      refine seqE ?_
      have hg := donE hg (x1.outD hi1 hb1)
      exact leafE hown hg
    have hg := finE hg (x1.fin hi1)
    refine seqE ?_
    exact leafE hown hg
theorem szd_laws_szTrailS : Szd (bdS Trail.bd) laws_szTrailS := szS_ok (b := laws_szTrailS_b1) szd_laws_szTrail (fun _ _ _ => rfl) (fun _ _ => rfl)
def laws_szStripe (p0 : Stripe) (p1 : Int) : Int :=
  (bif (decide ((laws_szTrailS p0.L p1) < 0)) then (-1) else (laws_szTrailS p0.L p1))
theorem c_laws_szStripe (p0 : Stripe) (p1 : Int) : FnOk prog 118 [.agg ((Stripe.cells false) p0), .one (.v (.int .i64 p1))] ⟨.one (.v (.int .i64 (laws_szStripe p0 p1))), [], [], false⟩ := by
  refine FnOk.intro (E := env) envOk wide func118 rfl (by kernel_rfl) rfl rfl ?_
  have hg := laws_szStripe.eq_1 p0 p1
  have hown : ∀ g : Int, AV.Own (AV.one (.v (.int .i64 g))) := fun g => .v _
  refine seqE ?_
  refine litE (m := 0) rfl ?_
  refine seqE ?_
  refine .inl (⟨_, _, c_laws_szTrailS p0.L p1, (FzAs.same _), ?_⟩)
  refine litE (m := 2) rfl ?_
  refine seqE ?_
  refine seqE ?_
  refine brD hg (fun hg h1 => ?_) (fun hg h1 => ?_)
  · refine seqE ?_
    exact leafE hown hg
  · refine seqE ?_
    exact leafE hown hg
theorem szd_laws_szStripe : Szd Stripe.bd laws_szStripe := by
  intro x left hb h0 h1 h2
  unfold laws_szStripe at h2 ⊢
  unfold Stripe.bd at hb ⊢
  cases c0 : decide ((laws_szTrailS x.L left) < 0) with
  | true => simp [c0] at h2
  | false =>
  have p0 : 0 ≤ (laws_szTrailS x.L left) := by simpa using c0
  have z0 := szd_laws_szTrailS x.L left hb h0 h1 p0
  have b0 := z0.1
  have u0 := z0.2
  have v0 : (laws_szTrailS x.L left) ≤ 1048576 := by omega
  simp only [c0, cond_false] at h2 ⊢
  exact ⟨b0, by omega⟩
def laws_szStripeS_b1 (i1 : Nat) (s1 : Int) (a1 : Stripe) : Step (Int) Int :=
  (bif (decide ((laws_szStripe a1 s1) < 0)) then (.done (-1)) else (.next (laws_szStripe a1 s1)))
def laws_szStripeS (p0 : (List Stripe)) (p1 : Int) : Int :=
  (bif (decide ((IntKind.i64.wrap (p1 - (((p0).length : Nat) : Int))) < 0)) then (-1) else (Fin.get (fun s1 => s1) (loopL laws_szStripeS_b1 0 (IntKind.i64.wrap (p1 - (((p0).length : Nat) : Int))) p0)))
theorem c_laws_szStripeS (p0 : (List Stripe)) (p1 : Int) : FnOk prog 64 [.one (.s false 2 (List.map (Stripe.cells false) p0)), .one (.v (.int .i64 p1))] ⟨.one (.v (.int .i64 (laws_szStripeS p0 p1))), [], [], false⟩ := by
  refine FnOk.intro (E := env) envOk wide func64 rfl (by kernel_rfl) rfl rfl ?_
  have hg := laws_szStripeS.eq_1 p0 p1
  have hown : ∀ g : Int, AV.Own (AV.one (.v (.int .i64 g))) := fun g => .v _
  refine seqE ?_
  refine seqE ?_
  refine lenM fun hN1 => ?_
  refine seqE ?_
  refine seqE ?_
  refine brD hg (fun hg h2 => ?_) (fun hg h2 => ?_)
  · refine seqE ?_
    exact leafE hown hg
  · refine seqE ?_
    refine seqE ?_
    refine loopLE hg [0] (fun x1 => [(1, .one (.v (.int .i64 x1.s))), (5, .one (.v (.int .i64 ((x1.i : Nat) : Int))))]) (fun x1 => []) [] ?_ (fun x1 => ?_)
    · exact ⟨rfl, ⟨rfl, rfl, rfl, trivial⟩, trivial, trivial⟩
    refine seqE ?_
    refine seqE ?_
    refine lenM fun hN3 => ?_
    refine tstL (fun hi1 => ?_) (fun hi1 => ?_)
    · have hb1 := (x1.bdy hi1).trans (laws_szStripeS_b1.eq_1 ..)
      have hw1 := wrap_succ hi1 (by first | assumption | omega)
      refine seqE ?_
      refine seqE ?_
      refine idxAt hi1 ?_
      refine .inl (⟨_, _, c_laws_szStripe (p0[x1.i]'hi1) x1.s, (FzAs.same _), ?_⟩)
      refine litE (m := 1) rfl ?_
      refine seqE ?_
      refine brD hb1 (fun hb1 h4 => ?_) (fun hb1 h4 => x1.goE hi1 hb1 [] ⟨rfl, ⟨rfl, (eqInt hw1), rfl, trivial⟩, trivial, trivial⟩)
      refine seqE ?_
      have hg := donE hg (x1.outD hi1 hb1)
      exact leafE hown hg
    have hg := finE hg (x1.fin hi1)
    refine seqE ?_
    exact leafE hown hg
theorem szd_laws_szStripeS : Szd (bdS Stripe.bd) laws_szStripeS := szS_ok (b := laws_szStripeS_b1) szd_laws_szStripe (fun _ _ _ => rfl) (fun _ _ => rfl)
def laws_szVerdictS (p0 : (List Verdict)) (p1 : Int) : Int :=
  (bif (decide ((IntKind.i64.wrap (p1 - (((p0).length : Nat) : Int))) < 0)) then (-1) else (IntKind.i64.wrap (p1 - (((p0).length : Nat) : Int))))
theorem c_laws_szVerdictS (p0 : (List Verdict)) (p1 : Int) : FnOk prog 65 [.one (.s false 3 (List.map Verdict.cells p0)), .one (.v (.int .i64 p1))] ⟨.one (.v (.int .i64 (laws_szVerdictS p0 p1))), [], [], false⟩ := by
  refine FnOk.intro (E := env) envOk wide func65 rfl (by kernel_rfl) rfl rfl ?_
  have hg := laws_szVerdictS.eq_1 p0 p1
  have hown : ∀ g : Int, AV.Own (AV.one (.v (.int .i64 g))) := fun g => .v _
  refine seqE ?_
  refine seqE ?_
  refine lenM fun hN1 => ?_
  refine seqE ?_
  refine seqE ?_
  refine brD hg (fun hg h2 => ?_) (fun hg h2 => ?_)
  · refine seqE ?_
    exact leafE hown hg
  · refine seqE ?_
    exact leafE hown hg
theorem szd_laws_szVerdictS : Szd (bdS Verdict.bd) laws_szVerdictS := by
  intro l left hb h0 h1 h2
  unfold laws_szVerdictS at h2 ⊢
  have hl := hb.1
  have hw : IntKind.i64.wrap (left - ((l.length : Nat) : Int)) = left - ((l.length : Nat) : Int) := by rw [Go.Ev.wrap_small] <;> omega
  rw [hw] at h2 ⊢
  cases c : decide (left - ((l.length : Nat) : Int) < 0) with
  | true => rw [c] at h2; simp at h2
  | false =>
    rw [c] at h2
    simp only [cond_false] at h2 ⊢
    have : 0 ≤ left - ((l.length : Nat) : Int) := by simpa using c
    exact ⟨⟨by omega, fun _ _ => trivial⟩, by omega⟩
def laws_szTimerS (p0 : (List Timer)) (p1 : Int) : Int :=
  (bif (decide ((IntKind.i64.wrap (p1 - (((p0).length : Nat) : Int))) < 0)) then (-1) else (IntKind.i64.wrap (p1 - (((p0).length : Nat) : Int))))
theorem c_laws_szTimerS (p0 : (List Timer)) (p1 : Int) : FnOk prog 67 [.one (.s false 3 (List.map Timer.cells p0)), .one (.v (.int .i64 p1))] ⟨.one (.v (.int .i64 (laws_szTimerS p0 p1))), [], [], false⟩ := by
  refine FnOk.intro (E := env) envOk wide func67 rfl (by kernel_rfl) rfl rfl ?_
  have hg := laws_szTimerS.eq_1 p0 p1
  have hown : ∀ g : Int, AV.Own (AV.one (.v (.int .i64 g))) := fun g => .v _
  refine seqE ?_
  refine seqE ?_
  refine lenM fun hN1 => ?_
  refine seqE ?_
  refine seqE ?_
  refine brD hg (fun hg h2 => ?_) (fun hg h2 => ?_)
  · refine seqE ?_
    exact leafE hown hg
  · refine seqE ?_
    exact leafE hown hg
theorem szd_laws_szTimerS : Szd (bdS Timer.bd) laws_szTimerS := by
  intro l left hb h0 h1 h2
  unfold laws_szTimerS at h2 ⊢
  have hl := hb.1
  have hw : IntKind.i64.wrap (left - ((l.length : Nat) : Int)) = left - ((l.length : Nat) : Int) := by rw [Go.Ev.wrap_small] <;> omega
  rw [hw] at h2 ⊢
  cases c : decide (left - ((l.length : Nat) : Int) < 0) with
  | true => rw [c] at h2; simp at h2
  | false =>
    rw [c] at h2
    simp only [cond_false] at h2 ⊢
    have : 0 ≤ left - ((l.length : Nat) : Int) := by simpa using c
    exact ⟨⟨by omega, fun _ _ => trivial⟩, by omega⟩
def laws_szTimerSS_b1 (i1 : Nat) (s1 : Int) (a1 : (List Timer)) : Step (Int) Int :=
  (bif (decide ((laws_szTimerS a1 s1) < 0)) then (.done (-1)) else (.next (laws_szTimerS a1 s1)))
def laws_szTimerSS (p0 : (List (List Timer))) (p1 : Int) : Int :=
  (bif (decide ((IntKind.i64.wrap (p1 - (((p0).length : Nat) : Int))) < 0)) then (-1) else (Fin.get (fun s1 => s1) (loopL laws_szTimerSS_b1 0 (IntKind.i64.wrap (p1 - (((p0).length : Nat) : Int))) p0)))
theorem c_laws_szTimerSS (p0 : (List (List Timer))) (p1 : Int) : FnOk prog 119 [.one (.s false 1 (List.map (cSl false 3 Timer.cells) p0)), .one (.v (.int .i64 p1))] ⟨.one (.v (.int .i64 (laws_szTimerSS p0 p1))), [], [], false⟩ := by
  refine FnOk.intro (E := env) envOk wide func119 rfl (by kernel_rfl) rfl rfl ?_
  have hg := laws_szTimerSS.eq_1 p0 p1
  have hown : ∀ g : Int, AV.Own (AV.one (.v (.int .i64 g))) := fun g => .v _
  refine seqE ?_
  refine seqE ?_
  refine lenM fun hN1 => ?_
  refine seqE ?_
  refine seqE ?_
  refine brD hg (fun hg h2 => ?_) (fun hg h2 => ?_)
  · refine seqE ?_
    exact leafE hown hg
  · refine seqE ?_
    refine seqE ?_
    refine loopLE hg [0] (fun x1 => [(1, .one (.v (.int .i64 x1.s))), (5, .one (.v (.int .i64 ((x1.i : Nat) : Int))))]) (fun x1 => []) [] ?_ (fun x1 => ?_)
    · exact ⟨rfl, ⟨rfl, rfl, rfl, trivial⟩, trivial, trivial⟩
    refine seqE ?_
    refine seqE ?_
    refine lenM fun hN3 => ?_
    refine tstL (fun hi1 => ?_) (fun hi1 => ?_)
    · have hb1 := (x1.bdy hi1).trans (laws_szTimerSS_b1.eq_1 ..)
      have hw1 := wrap_succ hi1 (by first | assumption | omega)
      refine seqE ?_
      refine seqE ?_
      refine idxAt hi1 ?_
      refine .inl (⟨_, _, c_laws_szTimerS (p0[x1.i]'hi1) x1.s, (FzAs.same _), ?_⟩)
      refine litE (m := 1) rfl ?_
      refine seqE ?_
      refine brD hb1 (fun hb1 h4 => ?_) (fun hb1 h4 => x1.goE hi1 hb1 [] ⟨rfl, ⟨rfl, (eqInt hw1), rfl, trivial⟩, trivial, trivial⟩)
      refine seqE ?_
      have hg := donE hg (x1.outD hi1 hb1)
      exact leafE hown hg
    have hg := finE hg (x1.fin hi1)
    refine seqE ?_
    exact leafE hown hg
theorem szd_laws_szTimerSS : Szd (bdS (bdS Timer.bd)) laws_szTimerSS := szS_ok (b := laws_szTimerSS_b1) szd_laws_szTimerS (fun _ _ _ => rfl) (fun _ _ => rfl)
def laws_szWheel (p0 : Wheel) (p1 : Int) : Int :=
  (bif (decide ((laws_szTimerSS p0.Near p1) < 0)) then (-1) else (bif (decide ((laws_szTimerSS p0.Far (laws_szTimerSS p0.Near p1)) < 0)) then (-1) else (bif (decide ((laws_szTimerS p0.Rest (laws_szTimerSS p0.Far (laws_szTimerSS p0.Near p1))) < 0)) then (-1) else (laws_szTimerS p0.Rest (laws_szTimerSS p0.Far (laws_szTimerSS p0.Near p1))))))
theorem c_laws_szWheel (p0 : Wheel) (p1 : Int) : FnOk prog 66 [.agg ((Wheel.cells false) p0), .one (.v (.int .i64 p1))] ⟨.one (.v (.int .i64 (laws_szWheel p0 p1))), [], [], false⟩ := by
  refine FnOk.intro (E := env) envOk wide func66 rfl (by kernel_rfl) rfl rfl ?_
  have hg := laws_szWheel.eq_1 p0 p1
  have hown : ∀ g : Int, AV.Own (AV.one (.v (.int .i64 g))) := fun g => .v _
  refine seqE ?_
  refine litE (m := 0) rfl ?_
  refine seqE ?_
  refine .inl (⟨_, _, c_laws_szTimerSS p0.Near p1, (FzAs.same _), ?_⟩)
  refine litE (m := 2) rfl ?_
  refine seqE ?_
  refine seqE ?_
  refine brD hg (fun hg h1 => ?_) (fun hg h1 => ?_)
  · refine seqE ?_
    exact leafE hown hg
  · refine seqE ?_
    refine .inl (⟨_, _, c_laws_szTimerSS p0.Far (laws_szTimerSS p0.Near p1), (FzAs.same _), ?_⟩)
    refine litE (m := 3) rfl ?_
    refine seqE ?_
    refine seqE ?_
    refine brD hg (fun hg h2 => ?_) (fun hg h2 => ?_)
    · refine seqE ?_
      exact leafE hown hg
    · refine seqE ?_
      refine .inl (⟨_, _, c_laws_szTimerS p0.Rest (laws_szTimerSS p0.Far (laws_szTimerSS p0.Near p1)), (FzAs.same _), ?_⟩)
      refine litE (m := 4) rfl ?_
      refine seqE ?_
      refine seqE ?_
      refine brD hg (fun hg h3 => ?_) (fun hg h3 => ?_)
      · refine seqE ?_
        exact leafE hown hg
      · refine seqE ?_
        exact leafE hown hg
theorem szd_laws_szWheel : Szd Wheel.bd laws_szWheel := by
  intro x left hb h0 h1 h2
  unfold laws_szWheel at h2 ⊢
  unfold Wheel.bd at hb ⊢
  cases c0 : decide ((laws_szTimerSS x.Near left) < 0) with
  | true => simp [c0] at h2
  | false =>
  have p0 : 0 ≤ (laws_szTimerSS x.Near left) := by simpa using c0
  have z0 := szd_laws_szTimerSS x.Near left hb.1 h0 h1 p0
  have b0 := z0.1
  have u0 := z0.2
  have v0 : (laws_szTimerSS x.Near left) ≤ 1048576 := by omega
  cases c1 : decide ((laws_szTimerSS x.Far (laws_szTimerSS x.Near left)) < 0) with
  | true => simp [c0, c1] at h2
  | false =>
  have p1 : 0 ≤ (laws_szTimerSS x.Far (laws_szTimerSS x.Near left)) := by simpa using c1
  have z1 := szd_laws_szTimerSS x.Far (laws_szTimerSS x.Near left) hb.2.1 p0 v0 p1
  have b1 := z1.1
  have u1 := z1.2
  have v1 : (laws_szTimerSS x.Far (laws_szTimerSS x.Near left)) ≤ 1048576 := by omega
  cases c2 : decide ((laws_szTimerS x.Rest (laws_szTimerSS x.Far (laws_szTimerSS x.Near left))) < 0) with
  | true => simp [c0, c1, c2] at h2
  | false =>
  have p2 : 0 ≤ (laws_szTimerS x.Rest (laws_szTimerSS x.Far (laws_szTimerSS x.Near left))) := by simpa using c2
  have z2 := szd_laws_szTimerS x.Rest (laws_szTimerSS x.Far (laws_szTimerSS x.Near left)) hb.2.2 p1 v1 p2
  have b2 := z2.1
  have u2 := z2.2
  have v2 : (laws_szTimerS x.Rest (laws_szTimerSS x.Far (laws_szTimerSS x.Near left))) ≤ 1048576 := by omega
  simp only [c0, c1, c2, cond_false] at h2 ⊢
  exact ⟨⟨b0, b1, b2⟩, by omega⟩
def laws_szItem (p0 : Item) (p1 : Int) : Int :=
  (bif (decide ((laws_szSpan p0.S p1) < 0)) then (-1) else (laws_szSpan p0.S p1))
theorem c_laws_szItem (p0 : Item) (p1 : Int) : FnOk prog 120 [.agg ((Item.cells false) p0), .one (.v (.int .i64 p1))] ⟨.one (.v (.int .i64 (laws_szItem p0 p1))), [], [], false⟩ := by
  refine FnOk.intro (E := env) envOk wide func120 rfl (by kernel_rfl) rfl rfl ?_
  have hg := laws_szItem.eq_1 p0 p1
  have hown : ∀ g : Int, AV.Own (AV.one (.v (.int .i64 g))) := fun g => .v _
  refine seqE ?_
  refine litE (m := 0) rfl ?_
  refine seqE ?_
  refine .inl (⟨_, _, c_laws_szSpan p0.S p1, (FzAs.same _), ?_⟩)
  refine litE (m := 2) rfl ?_
  refine seqE ?_
  refine seqE ?_
  refine brD hg (fun hg h1 => ?_) (fun hg h1 => ?_)
  · refine seqE ?_
    exact leafE hown hg
  · refine seqE ?_
    exact leafE hown hg
theorem szd_laws_szItem : Szd Item.bd laws_szItem := by
  intro x left hb h0 h1 h2
  unfold laws_szItem at h2 ⊢
  unfold Item.bd at hb ⊢
  cases c0 : decide ((laws_szSpan x.S left) < 0) with
  | true => simp [c0] at h2
  | false =>
  have p0 : 0 ≤ (laws_szSpan x.S left) := by simpa using c0
  have z0 := szd_laws_szSpan x.S left hb h0 h1 p0
  have b0 := z0.1
  have u0 := z0.2
  have v0 : (laws_szSpan x.S left) ≤ 1048576 := by omega
  simp only [c0, cond_false] at h2 ⊢
  exact ⟨b0, by omega⟩
def laws_szItemS_b1 (i1 : Nat) (s1 : Int) (a1 : Item) : Step (Int) Int :=
  (bif (decide ((laws_szItem a1 s1) < 0)) then (.done (-1)) else (.next (laws_szItem a1 s1)))
def laws_szItemS (p0 : (List Item)) (p1 : Int) : Int :=
  (bif (decide ((IntKind.i64.wrap (p1 - (((p0).length : Nat) : Int))) < 0)) then (-1) else (Fin.get (fun s1 => s1) (loopL laws_szItemS_b1 0 (IntKind.i64.wrap (p1 - (((p0).length : Nat) : Int))) p0)))
theorem c_laws_szItemS (p0 : (List Item)) (p1 : Int) : FnOk prog 68 [.one (.s false 7 (List.map (Item.cells false) p0)), .one (.v (.int .i64 p1))] ⟨.one (.v (.int .i64 (laws_szItemS p0 p1))), [], [], false⟩ := by
  refine FnOk.intro (E := env) envOk wide func68 rfl (by kernel_rfl) rfl rfl ?_
  have hg := laws_szItemS.eq_1 p0 p1
  have hown : ∀ g : Int, AV.Own (AV.one (.v (.int .i64 g))) := fun g => .v _
  refine seqE ?_
  refine seqE ?_
  refine lenM fun hN1 => ?_
  refine seqE ?_
  refine seqE ?_
  refine brD hg (fun hg h2 => ?_) (fun hg h2 => ?_)
  · refine seqE ?_
    exact leafE hown hg
  · refine seqE ?_
    refine seqE ?_
    refine loopLE hg [0] (fun x1 => [(1, .one (.v (.int .i64 x1.s))), (5, .one (.v (.int .i64 ((x1.i : Nat) : Int))))]) (fun x1 => []) [] ?_ (fun x1 => ?_)
    · exact ⟨rfl, ⟨rfl, rfl, rfl, trivial⟩, trivial, trivial⟩
    refine seqE ?_
    refine seqE ?_
    refine lenM fun hN3 => ?_
    refine tstL (fun hi1 => ?_) (fun hi1 => ?_)
    · have hb1 := (x1.bdy hi1).trans (laws_szItemS_b1.eq_1 ..)
      have hw1 := wrap_succ hi1 (by first | assumption | omega)
      refine seqE ?_
      refine seqE ?_
      refine idxAt hi1 ?_
      refine .inl (⟨_, _, c_laws_szItem (p0[x1.i]'hi1) x1.s, (FzAs.same _), ?_⟩)
      refine litE (m := 1) rfl ?_
      refine seqE ?_
      refine brD hb1 (fun hb1 h4 => ?_) (fun hb1 h4 => x1.goE hi1 hb1 [] ⟨rfl, ⟨rfl, (eqInt hw1), rfl, trivial⟩, trivial, trivial⟩)
      refine seqE ?_
      have hg := donE hg (x1.outD hi1 hb1)
      exact leafE hown hg
    have hg := finE hg (x1.fin hi1)
    refine seqE ?_
    exact leafE hown hg
theorem szd_laws_szItemS : Szd (bdS Item.bd) laws_szItemS := szS_ok (b := laws_szItemS_b1) szd_laws_szItem (fun _ _ _ => rfl) (fun _ _ => rfl)
def laws_szTask (p0 : Task) (p1 : Int) : Int :=
  (bif (decide ((laws_szSpan p0.S p1) < 0)) then (-1) else (bif (decide ((laws_szItemS p0.Hand (laws_szSpan p0.S p1)) < 0)) then (-1) else (laws_szItemS p0.Hand (laws_szSpan p0.S p1))))
theorem c_laws_szTask (p0 : Task) (p1 : Int) : FnOk prog 121 [.agg ((Task.cells false) p0), .one (.v (.int .i64 p1))] ⟨.one (.v (.int .i64 (laws_szTask p0 p1))), [], [], false⟩ := by
  refine FnOk.intro (E := env) envOk wide func121 rfl (by kernel_rfl) rfl rfl ?_
  have hg := laws_szTask.eq_1 p0 p1
  have hown : ∀ g : Int, AV.Own (AV.one (.v (.int .i64 g))) := fun g => .v _
  refine seqE ?_
  refine litE (m := 0) rfl ?_
  refine seqE ?_
  refine .inl (⟨_, _, c_laws_szSpan p0.S p1, (FzAs.same _), ?_⟩)
  refine litE (m := 2) rfl ?_
  refine seqE ?_
  refine seqE ?_
  refine brD hg (fun hg h1 => ?_) (fun hg h1 => ?_)
  · refine seqE ?_
    exact leafE hown hg
  · refine seqE ?_
    refine .inl (⟨_, _, c_laws_szItemS p0.Hand (laws_szSpan p0.S p1), (FzAs.same _), ?_⟩)
    refine litE (m := 3) rfl ?_
    refine seqE ?_
    refine seqE ?_
    refine brD hg (fun hg h2 => ?_) (fun hg h2 => ?_)
    · refine seqE ?_
      exact leafE hown hg
    · refine seqE ?_
      exact leafE hown hg
theorem szd_laws_szTask : Szd Task.bd laws_szTask := by
  intro x left hb h0 h1 h2
  unfold laws_szTask at h2 ⊢
  unfold Task.bd at hb ⊢
  cases c0 : decide ((laws_szSpan x.S left) < 0) with
  | true => simp [c0] at h2
  | false =>
  have p0 : 0 ≤ (laws_szSpan x.S left) := by simpa using c0
  have z0 := szd_laws_szSpan x.S left hb.1 h0 h1 p0
  have b0 := z0.1
  have u0 := z0.2
  have v0 : (laws_szSpan x.S left) ≤ 1048576 := by omega
  cases c1 : decide ((laws_szItemS x.Hand (laws_szSpan x.S left)) < 0) with
  | true => simp [c0, c1] at h2
  | false =>
  have p1 : 0 ≤ (laws_szItemS x.Hand (laws_szSpan x.S left)) := by simpa using c1
  have z1 := szd_laws_szItemS x.Hand (laws_szSpan x.S left) hb.2 p0 v0 p1
  have b1 := z1.1
  have u1 := z1.2
  have v1 : (laws_szItemS x.Hand (laws_szSpan x.S left)) ≤ 1048576 := by omega
  simp only [c0, c1, cond_false] at h2 ⊢
  exact ⟨⟨b0, b1⟩, by omega⟩
def laws_szTaskS_b1 (i1 : Nat) (s1 : Int) (a1 : Task) : Step (Int) Int :=
  (bif (decide ((laws_szTask a1 s1) < 0)) then (.done (-1)) else (.next (laws_szTask a1 s1)))
def laws_szTaskS (p0 : (List Task)) (p1 : Int) : Int :=
  (bif (decide ((IntKind.i64.wrap (p1 - (((p0).length : Nat) : Int))) < 0)) then (-1) else (Fin.get (fun s1 => s1) (loopL laws_szTaskS_b1 0 (IntKind.i64.wrap (p1 - (((p0).length : Nat) : Int))) p0)))
theorem c_laws_szTaskS (p0 : (List Task)) (p1 : Int) : FnOk prog 69 [.one (.s false 12 (List.map (Task.cells false) p0)), .one (.v (.int .i64 p1))] ⟨.one (.v (.int .i64 (laws_szTaskS p0 p1))), [], [], false⟩ := by
  refine FnOk.intro (E := env) envOk wide func69 rfl (by kernel_rfl) rfl rfl ?_
  have hg := laws_szTaskS.eq_1 p0 p1
  have hown : ∀ g : Int, AV.Own (AV.one (.v (.int .i64 g))) := fun g => .v _
  refine seqE ?_
  refine seqE ?_
  refine lenM fun hN1 => ?_
  refine seqE ?_
  refine seqE ?_
  refine brD hg (fun hg h2 => ?_) (fun hg h2 => ?_)
  · refine seqE ?_
    exact leafE hown hg
  · refine seqE ?_
    refine seqE ?_
    refine loopLE hg [0] (fun x1 => [(1, .one (.v (.int .i64 x1.s))), (5, .one (.v (.int .i64 ((x1.i : Nat) : Int))))]) (fun x1 => []) [] ?_ (fun x1 => ?_)
    · exact ⟨rfl, ⟨rfl, rfl, rfl, trivial⟩, trivial, trivial⟩
    refine seqE ?_
    refine seqE ?_
    refine lenM fun hN3 => ?_
    refine tstL (fun hi1 => ?_) (fun hi1 => ?_)
    · have hb1 := (x1.bdy hi1).trans (laws_szTaskS_b1.eq_1 ..)
      have hw1 := wrap_succ hi1 (by first | assumption | omega)
      refine seqE ?_
      refine seqE ?_
      refine idxAt hi1 ?_
      refine .inl (⟨_, _, c_laws_szTask (p0[x1.i]'hi1) x1.s, (FzAs.same _), ?_⟩)
      refine litE (m := 1) rfl ?_
      refine seqE ?_
      refine brD hb1 (fun hb1 h4 => ?_) (fun hb1 h4 => x1.goE hi1 hb1 [] ⟨rfl, ⟨rfl, (eqInt hw1), rfl, trivial⟩, trivial, trivial⟩)
      refine seqE ?_
      have hg := donE hg (x1.outD hi1 hb1)
      exact leafE hown hg
    have hg := finE hg (x1.fin hi1)
    refine seqE ?_
    exact leafE hown hg
theorem szd_laws_szTaskS : Szd (bdS Task.bd) laws_szTaskS := szS_ok (b := laws_szTaskS_b1) szd_laws_szTask (fun _ _ _ => rfl) (fun _ _ => rfl)
def laws_szDeed (p0 : Deed) (p1 : Int) : Int :=
  (bif (decide ((laws_szSpan p0.S p1) < 0)) then (-1) else (laws_szSpan p0.S p1))
theorem c_laws_szDeed (p0 : Deed) (p1 : Int) : FnOk prog 38 [.agg ((Deed.cells false) p0), .one (.v (.int .i64 p1))] ⟨.one (.v (.int .i64 (laws_szDeed p0 p1))), [], [], false⟩ := by
  refine FnOk.intro (E := env) envOk wide func38 rfl (by kernel_rfl) rfl rfl ?_
  have hg := laws_szDeed.eq_1 p0 p1
  have hown : ∀ g : Int, AV.Own (AV.one (.v (.int .i64 g))) := fun g => .v _
  refine seqE ?_
  refine litE (m := 0) rfl ?_
  refine seqE ?_
  refine .inl (⟨_, _, c_laws_szSpan p0.S p1, (FzAs.same _), ?_⟩)
  refine litE (m := 2) rfl ?_
  refine seqE ?_
  refine seqE ?_
  refine brD hg (fun hg h1 => ?_) (fun hg h1 => ?_)
  · refine seqE ?_
    exact leafE hown hg
  · refine seqE ?_
    exact leafE hown hg
theorem szd_laws_szDeed : Szd Deed.bd laws_szDeed := by
  intro x left hb h0 h1 h2
  unfold laws_szDeed at h2 ⊢
  unfold Deed.bd at hb ⊢
  cases c0 : decide ((laws_szSpan x.S left) < 0) with
  | true => simp [c0] at h2
  | false =>
  have p0 : 0 ≤ (laws_szSpan x.S left) := by simpa using c0
  have z0 := szd_laws_szSpan x.S left hb h0 h1 p0
  have b0 := z0.1
  have u0 := z0.2
  have v0 : (laws_szSpan x.S left) ≤ 1048576 := by omega
  simp only [c0, cond_false] at h2 ⊢
  exact ⟨b0, by omega⟩
def laws_szDeedS_b1 (i1 : Nat) (s1 : Int) (a1 : Deed) : Step (Int) Int :=
  (bif (decide ((laws_szDeed a1 s1) < 0)) then (.done (-1)) else (.next (laws_szDeed a1 s1)))
def laws_szDeedS (p0 : (List Deed)) (p1 : Int) : Int :=
  (bif (decide ((IntKind.i64.wrap (p1 - (((p0).length : Nat) : Int))) < 0)) then (-1) else (Fin.get (fun s1 => s1) (loopL laws_szDeedS_b1 0 (IntKind.i64.wrap (p1 - (((p0).length : Nat) : Int))) p0)))
theorem c_laws_szDeedS (p0 : (List Deed)) (p1 : Int) : FnOk prog 7 [.one (.s false 20 (List.map (Deed.cells false) p0)), .one (.v (.int .i64 p1))] ⟨.one (.v (.int .i64 (laws_szDeedS p0 p1))), [], [], false⟩ := by
  refine FnOk.intro (E := env) envOk wide func7 rfl (by kernel_rfl) rfl rfl ?_
  have hg := laws_szDeedS.eq_1 p0 p1
  have hown : ∀ g : Int, AV.Own (AV.one (.v (.int .i64 g))) := fun g => .v _
  refine seqE ?_
  refine seqE ?_
  refine lenM fun hN1 => ?_
  refine seqE ?_
  refine seqE ?_
  refine brD hg (fun hg h2 => ?_) (fun hg h2 => ?_)
  · refine seqE ?_
    exact leafE hown hg
  · refine seqE ?_
    refine seqE ?_
    refine loopLE hg [0] (fun x1 => [(1, .one (.v (.int .i64 x1.s))), (5, .one (.v (.int .i64 ((x1.i : Nat) : Int))))]) (fun x1 => []) [] ?_ (fun x1 => ?_)
    · exact ⟨rfl, ⟨rfl, rfl, rfl, trivial⟩, trivial, trivial⟩
    refine seqE ?_
    refine seqE ?_
    refine lenM fun hN3 => ?_
    refine tstL (fun hi1 => ?_) (fun hi1 => ?_)
    · have hb1 := (x1.bdy hi1).trans (laws_szDeedS_b1.eq_1 ..)
      have hw1 := wrap_succ hi1 (by first | assumption | omega)
      refine seqE ?_
      refine seqE ?_
      refine idxAt hi1 ?_
      refine .inl (⟨_, _, c_laws_szDeed (p0[x1.i]'hi1) x1.s, (FzAs.same _), ?_⟩)
      refine litE (m := 1) rfl ?_
      refine seqE ?_
      refine brD hb1 (fun hb1 h4 => ?_) (fun hb1 h4 => x1.goE hi1 hb1 [] ⟨rfl, ⟨rfl, (eqInt hw1), rfl, trivial⟩, trivial, trivial⟩)
      refine seqE ?_
      have hg := donE hg (x1.outD hi1 hb1)
      exact leafE hown hg
    have hg := finE hg (x1.fin hi1)
    refine seqE ?_
    exact leafE hown hg
theorem szd_laws_szDeedS : Szd (bdS Deed.bd) laws_szDeedS := szS_ok (b := laws_szDeedS_b1) szd_laws_szDeed (fun _ _ _ => rfl) (fun _ _ => rfl)
def laws_szWorld (p0 : World) (p1 : Int) : Int :=
  (bif (decide ((laws_szConf p0.C p1) < 0)) then (-1) else (bif (decide ((laws_szStripeS p0.St (laws_szConf p0.C p1)) < 0)) then (-1) else (bif (decide ((laws_szVerdictS p0.Cache (laws_szStripeS p0.St (laws_szConf p0.C p1))) < 0)) then (-1) else (bif (decide ((laws_szWheel p0.W (laws_szVerdictS p0.Cache (laws_szStripeS p0.St (laws_szConf p0.C p1)))) < 0)) then (-1) else (bif (decide ((laws_szTimerS p0.Due (laws_szWheel p0.W (laws_szVerdictS p0.Cache (laws_szStripeS p0.St (laws_szConf p0.C p1))))) < 0)) then (-1) else (bif (decide ((laws_szItemS p0.Queue (laws_szTimerS p0.Due (laws_szWheel p0.W (laws_szVerdictS p0.Cache (laws_szStripeS p0.St (laws_szConf p0.C p1)))))) < 0)) then (-1) else (bif (decide ((laws_szItemS p0.Out (laws_szItemS p0.Queue (laws_szTimerS p0.Due (laws_szWheel p0.W (laws_szVerdictS p0.Cache (laws_szStripeS p0.St (laws_szConf p0.C p1))))))) < 0)) then (-1) else (bif (decide ((laws_szTaskS p0.Tasks (laws_szItemS p0.Out (laws_szItemS p0.Queue (laws_szTimerS p0.Due (laws_szWheel p0.W (laws_szVerdictS p0.Cache (laws_szStripeS p0.St (laws_szConf p0.C p1)))))))) < 0)) then (-1) else (bif (decide ((laws_szDeedS p0.Deeds (laws_szTaskS p0.Tasks (laws_szItemS p0.Out (laws_szItemS p0.Queue (laws_szTimerS p0.Due (laws_szWheel p0.W (laws_szVerdictS p0.Cache (laws_szStripeS p0.St (laws_szConf p0.C p1))))))))) < 0)) then (-1) else (laws_szDeedS p0.Deeds (laws_szTaskS p0.Tasks (laws_szItemS p0.Out (laws_szItemS p0.Queue (laws_szTimerS p0.Due (laws_szWheel p0.W (laws_szVerdictS p0.Cache (laws_szStripeS p0.St (laws_szConf p0.C p1))))))))))))))))))
theorem c_laws_szWorld (p0 : World) (p1 : Int) : FnOk prog 25 [.agg ((World.cells false) p0), .one (.v (.int .i64 p1))] ⟨.one (.v (.int .i64 (laws_szWorld p0 p1))), [], [], false⟩ := by
  refine FnOk.intro (E := env) envOk wide func25 rfl (by kernel_rfl) rfl rfl ?_
  have hg := laws_szWorld.eq_1 p0 p1
  have hown : ∀ g : Int, AV.Own (AV.one (.v (.int .i64 g))) := fun g => .v _
  refine seqE ?_
  refine litE (m := 0) rfl ?_
  refine seqE ?_
  refine .inl (⟨_, _, c_laws_szConf p0.C p1, (FzAs.same _), ?_⟩)
  refine litE (m := 2) rfl ?_
  refine seqE ?_
  refine seqE ?_
  refine brD hg (fun hg h1 => ?_) (fun hg h1 => ?_)
  · refine seqE ?_
    exact leafE hown hg
  · refine seqE ?_
    refine .inl (⟨_, _, c_laws_szStripeS p0.St (laws_szConf p0.C p1), (FzAs.same _), ?_⟩)
    refine litE (m := 3) rfl ?_
    refine seqE ?_
    refine seqE ?_
    refine brD hg (fun hg h2 => ?_) (fun hg h2 => ?_)
    · refine seqE ?_
      exact leafE hown hg
    · refine seqE ?_
      refine .inl (⟨_, _, c_laws_szVerdictS p0.Cache (laws_szStripeS p0.St (laws_szConf p0.C p1)), (FzAs.same _), ?_⟩)
      refine litE (m := 4) rfl ?_
      refine seqE ?_
      refine seqE ?_
      refine brD hg (fun hg h3 => ?_) (fun hg h3 => ?_)
      · refine seqE ?_
        exact leafE hown hg
      · refine seqE ?_
        refine .inl (⟨_, _, c_laws_szWheel p0.W (laws_szVerdictS p0.Cache (laws_szStripeS p0.St (laws_szConf p0.C p1))), (FzAs.same _), ?_⟩)
        refine litE (m := 5) rfl ?_
        refine seqE ?_
        refine seqE ?_
        refine brD hg (fun hg h4 => ?_) (fun hg h4 => ?_)
        · refine seqE ?_
          exact leafE hown hg
        · refine seqE ?_
          refine .inl (⟨_, _, c_laws_szTimerS p0.Due (laws_szWheel p0.W (laws_szVerdictS p0.Cache (laws_szStripeS p0.St (laws_szConf p0.C p1)))), (FzAs.same _), ?_⟩)
          refine litE (m := 6) rfl ?_
          refine seqE ?_
          refine seqE ?_
          refine brD hg (fun hg h5 => ?_) (fun hg h5 => ?_)
          · refine seqE ?_
            exact leafE hown hg
          · refine seqE ?_
            refine .inl (⟨_, _, c_laws_szItemS p0.Queue (laws_szTimerS p0.Due (laws_szWheel p0.W (laws_szVerdictS p0.Cache (laws_szStripeS p0.St (laws_szConf p0.C p1))))), (FzAs.same _), ?_⟩)
            refine litE (m := 7) rfl ?_
            refine seqE ?_
            refine seqE ?_
            refine brD hg (fun hg h6 => ?_) (fun hg h6 => ?_)
            · refine seqE ?_
              exact leafE hown hg
            · refine seqE ?_
              refine .inl (⟨_, _, c_laws_szItemS p0.Out (laws_szItemS p0.Queue (laws_szTimerS p0.Due (laws_szWheel p0.W (laws_szVerdictS p0.Cache (laws_szStripeS p0.St (laws_szConf p0.C p1)))))), (FzAs.same _), ?_⟩)
              refine litE (m := 8) rfl ?_
              refine seqE ?_
              refine seqE ?_
              refine brD hg (fun hg h7 => ?_) (fun hg h7 => ?_)
              · refine seqE ?_
                exact leafE hown hg
              · refine seqE ?_
                refine .inl (⟨_, _, c_laws_szTaskS p0.Tasks (laws_szItemS p0.Out (laws_szItemS p0.Queue (laws_szTimerS p0.Due (laws_szWheel p0.W (laws_szVerdictS p0.Cache (laws_szStripeS p0.St (laws_szConf p0.C p1))))))), (FzAs.same _), ?_⟩)
                refine litE (m := 9) rfl ?_
                refine seqE ?_
                refine seqE ?_
                refine brD hg (fun hg h8 => ?_) (fun hg h8 => ?_)
                · refine seqE ?_
                  exact leafE hown hg
                · refine seqE ?_
                  refine .inl (⟨_, _, c_laws_szDeedS p0.Deeds (laws_szTaskS p0.Tasks (laws_szItemS p0.Out (laws_szItemS p0.Queue (laws_szTimerS p0.Due (laws_szWheel p0.W (laws_szVerdictS p0.Cache (laws_szStripeS p0.St (laws_szConf p0.C p1)))))))), (FzAs.same _), ?_⟩)
                  refine litE (m := 10) rfl ?_
                  refine seqE ?_
                  refine seqE ?_
                  refine brD hg (fun hg h9 => ?_) (fun hg h9 => ?_)
                  · refine seqE ?_
                    exact leafE hown hg
                  · refine seqE ?_
                    exact leafE hown hg
theorem szd_laws_szWorld : Szd World.bd laws_szWorld := by
  intro x left hb h0 h1 h2
  unfold laws_szWorld at h2 ⊢
  unfold World.bd at hb ⊢
  cases c0 : decide ((laws_szConf x.C left) < 0) with
  | true => simp [c0] at h2
  | false =>
  have p0 : 0 ≤ (laws_szConf x.C left) := by simpa using c0
  have z0 := szd_laws_szConf x.C left hb.1 h0 h1 p0
  have b0 := z0.1
  have u0 := z0.2
  have v0 : (laws_szConf x.C left) ≤ 1048576 := by omega
  cases c1 : decide ((laws_szStripeS x.St (laws_szConf x.C left)) < 0) with
  | true => simp [c0, c1] at h2
  | false =>
  have p1 : 0 ≤ (laws_szStripeS x.St (laws_szConf x.C left)) := by simpa using c1
  have z1 := szd_laws_szStripeS x.St (laws_szConf x.C left) hb.2.1 p0 v0 p1
  have b1 := z1.1
  have u1 := z1.2
  have v1 : (laws_szStripeS x.St (laws_szConf x.C left)) ≤ 1048576 := by omega
  cases c2 : decide ((laws_szVerdictS x.Cache (laws_szStripeS x.St (laws_szConf x.C left))) < 0) with
  | true => simp [c0, c1, c2] at h2
  | false =>
  have p2 : 0 ≤ (laws_szVerdictS x.Cache (laws_szStripeS x.St (laws_szConf x.C left))) := by simpa using c2
  have z2 := szd_laws_szVerdictS x.Cache (laws_szStripeS x.St (laws_szConf x.C left)) hb.2.2.1 p1 v1 p2
  have b2 := z2.1
  have u2 := z2.2
  have v2 : (laws_szVerdictS x.Cache (laws_szStripeS x.St (laws_szConf x.C left))) ≤ 1048576 := by omega
  cases c3 : decide ((laws_szWheel x.W (laws_szVerdictS x.Cache (laws_szStripeS x.St (laws_szConf x.C left)))) < 0) with
  | true => simp [c0, c1, c2, c3] at h2
  | false =>
  have p3 : 0 ≤ (laws_szWheel x.W (laws_szVerdictS x.Cache (laws_szStripeS x.St (laws_szConf x.C left)))) := by simpa using c3
  have z3 := szd_laws_szWheel x.W (laws_szVerdictS x.Cache (laws_szStripeS x.St (laws_szConf x.C left))) hb.2.2.2.1 p2 v2 p3
  have b3 := z3.1
  have u3 := z3.2
  have v3 : (laws_szWheel x.W (laws_szVerdictS x.Cache (laws_szStripeS x.St (laws_szConf x.C left)))) ≤ 1048576 := by omega
  cases c4 : decide ((laws_szTimerS x.Due (laws_szWheel x.W (laws_szVerdictS x.Cache (laws_szStripeS x.St (laws_szConf x.C left))))) < 0) with
  | true => simp [c0, c1, c2, c3, c4] at h2
  | false =>
  have p4 : 0 ≤ (laws_szTimerS x.Due (laws_szWheel x.W (laws_szVerdictS x.Cache (laws_szStripeS x.St (laws_szConf x.C left))))) := by simpa using c4
  have z4 := szd_laws_szTimerS x.Due (laws_szWheel x.W (laws_szVerdictS x.Cache (laws_szStripeS x.St (laws_szConf x.C left)))) hb.2.2.2.2.1 p3 v3 p4
  have b4 := z4.1
  have u4 := z4.2
  have v4 : (laws_szTimerS x.Due (laws_szWheel x.W (laws_szVerdictS x.Cache (laws_szStripeS x.St (laws_szConf x.C left))))) ≤ 1048576 := by omega
  cases c5 : decide ((laws_szItemS x.Queue (laws_szTimerS x.Due (laws_szWheel x.W (laws_szVerdictS x.Cache (laws_szStripeS x.St (laws_szConf x.C left)))))) < 0) with
  | true => simp [c0, c1, c2, c3, c4, c5] at h2
  | false =>
  have p5 : 0 ≤ (laws_szItemS x.Queue (laws_szTimerS x.Due (laws_szWheel x.W (laws_szVerdictS x.Cache (laws_szStripeS x.St (laws_szConf x.C left)))))) := by simpa using c5
  have z5 := szd_laws_szItemS x.Queue (laws_szTimerS x.Due (laws_szWheel x.W (laws_szVerdictS x.Cache (laws_szStripeS x.St (laws_szConf x.C left))))) hb.2.2.2.2.2.1 p4 v4 p5
  have b5 := z5.1
  have u5 := z5.2
  have v5 : (laws_szItemS x.Queue (laws_szTimerS x.Due (laws_szWheel x.W (laws_szVerdictS x.Cache (laws_szStripeS x.St (laws_szConf x.C left)))))) ≤ 1048576 := by omega
  cases c6 : decide ((laws_szItemS x.Out (laws_szItemS x.Queue (laws_szTimerS x.Due (laws_szWheel x.W (laws_szVerdictS x.Cache (laws_szStripeS x.St (laws_szConf x.C left))))))) < 0) with
  | true => simp [c0, c1, c2, c3, c4, c5, c6] at h2
  | false =>
  have p6 : 0 ≤ (laws_szItemS x.Out (laws_szItemS x.Queue (laws_szTimerS x.Due (laws_szWheel x.W (laws_szVerdictS x.Cache (laws_szStripeS x.St (laws_szConf x.C left))))))) := by simpa using c6
  have z6 := szd_laws_szItemS x.Out (laws_szItemS x.Queue (laws_szTimerS x.Due (laws_szWheel x.W (laws_szVerdictS x.Cache (laws_szStripeS x.St (laws_szConf x.C left)))))) hb.2.2.2.2.2.2.1 p5 v5 p6
  have b6 := z6.1
  have u6 := z6.2
  have v6 : (laws_szItemS x.Out (laws_szItemS x.Queue (laws_szTimerS x.Due (laws_szWheel x.W (laws_szVerdictS x.Cache (laws_szStripeS x.St (laws_szConf x.C left))))))) ≤ 1048576 := by omega
  cases c7 : decide ((laws_szTaskS x.Tasks (laws_szItemS x.Out (laws_szItemS x.Queue (laws_szTimerS x.Due (laws_szWheel x.W (laws_szVerdictS x.Cache (laws_szStripeS x.St (laws_szConf x.C left)))))))) < 0) with
  | true => simp [c0, c1, c2, c3, c4, c5, c6, c7] at h2
  | false =>
  have p7 : 0 ≤ (laws_szTaskS x.Tasks (laws_szItemS x.Out (laws_szItemS x.Queue (laws_szTimerS x.Due (laws_szWheel x.W (laws_szVerdictS x.Cache (laws_szStripeS x.St (laws_szConf x.C left)))))))) := by simpa using c7
  have z7 := szd_laws_szTaskS x.Tasks (laws_szItemS x.Out (laws_szItemS x.Queue (laws_szTimerS x.Due (laws_szWheel x.W (laws_szVerdictS x.Cache (laws_szStripeS x.St (laws_szConf x.C left))))))) hb.2.2.2.2.2.2.2.1 p6 v6 p7
  have b7 := z7.1
  have u7 := z7.2
  have v7 : (laws_szTaskS x.Tasks (laws_szItemS x.Out (laws_szItemS x.Queue (laws_szTimerS x.Due (laws_szWheel x.W (laws_szVerdictS x.Cache (laws_szStripeS x.St (laws_szConf x.C left)))))))) ≤ 1048576 := by omega
  cases c8 : decide ((laws_szDeedS x.Deeds (laws_szTaskS x.Tasks (laws_szItemS x.Out (laws_szItemS x.Queue (laws_szTimerS x.Due (laws_szWheel x.W (laws_szVerdictS x.Cache (laws_szStripeS x.St (laws_szConf x.C left))))))))) < 0) with
  | true => simp [c0, c1, c2, c3, c4, c5, c6, c7, c8] at h2
  | false =>
  have p8 : 0 ≤ (laws_szDeedS x.Deeds (laws_szTaskS x.Tasks (laws_szItemS x.Out (laws_szItemS x.Queue (laws_szTimerS x.Due (laws_szWheel x.W (laws_szVerdictS x.Cache (laws_szStripeS x.St (laws_szConf x.C left))))))))) := by simpa using c8
  have z8 := szd_laws_szDeedS x.Deeds (laws_szTaskS x.Tasks (laws_szItemS x.Out (laws_szItemS x.Queue (laws_szTimerS x.Due (laws_szWheel x.W (laws_szVerdictS x.Cache (laws_szStripeS x.St (laws_szConf x.C left)))))))) hb.2.2.2.2.2.2.2.2 p7 v7 p8
  have b8 := z8.1
  have u8 := z8.2
  have v8 : (laws_szDeedS x.Deeds (laws_szTaskS x.Tasks (laws_szItemS x.Out (laws_szItemS x.Queue (laws_szTimerS x.Due (laws_szWheel x.W (laws_szVerdictS x.Cache (laws_szStripeS x.St (laws_szConf x.C left))))))))) ≤ 1048576 := by omega
  simp only [c0, c1, c2, c3, c4, c5, c6, c7, c8, cond_false] at h2 ⊢
  exact ⟨⟨b0, b1, b2, b3, b4, b5, b6, b7, b8⟩, by omega⟩
def laws_toPolS_b1 (r0 : (Pol → Pol)) (i1 : Nat) (s1 : (List Pol)) (a1 : Pol) : Step ((List Pol)) (List Pol) :=
  (.next (List.set s1 i1 (r0 a1)))
def laws_toPolS (r0 : Pol → Pol) (p0 : (List Pol)) : (List Pol) :=
  (Fin.get (fun s1 => s1) (loopL (laws_toPolS_b1 r0) 0 (List.replicate (p0).length (default : Pol)) p0))
theorem c_laws_toPolS (r0 : Pol → Pol) (p0 : (List Pol)) (m0 : Nat) (hrec0 : ∀ (z0 : Pol), Pol.dep z0 < m0 → Pol.bd 1048576 z0 → FnOk prog 50 [.agg (Pol.opn false z0)] ⟨.agg (Pol.opn true (r0 z0)), [], [], false⟩) (hm0 : ∀ x ∈ p0, Pol.dep x < m0) (hs : bdS Pol.bd 1048576 p0) : FnOk prog 109 [.one (.s false 5 (List.map (Pol.cells false) p0))] ⟨.one (.s true 5 (List.map (Pol.cells true) (laws_toPolS r0 p0))), [], [], false⟩ := by
  refine FnOk.intro (E := env) envOk wide func109 rfl (by kernel_rfl) rfl rfl ?_
  have hs1 := hs.1
  have hg := laws_toPolS.eq_1 r0 p0
  have hown : ∀ g : (List Pol), AV.Own (AV.one (.s true 5 (List.map (Pol.cells true) g))) := fun g => ownSl own_Pol _
  refine seqE ?_
  refine seqE ?_
  refine lenM fun hN1 => ?_
  refine And.intro (by exact ⟨rfl, by omega, by show ((72 : Nat) : Int) * _ ≤ _; omega, by omega⟩) (rowsE (Y := List.map (Pol.cells true) (List.replicate (p0).length (default : Pol))) (by rw [List.map_replicate]; rfl) ?_)
  refine litE (m := 0) rfl ?_
  refine seqE ?_
  refine seqE ?_
  refine loopLI (fun _ s => (s).length = (p0).length) hg (by simp) [0, 3] (fun x1 => [(4, .one (.v (.int .i64 ((x1.i : Nat) : Int))))]) (fun x1 => [.new ⟨5, false, List.map (Pol.cells true) x1.s, 0⟩]) [some 0] ?_ (fun x1 => ?_)
  · exact ⟨rfl, ⟨rfl, rfl, ⟨rfl, rfl, rfl, rfl, by (first | rfl | omega | (dsimp only; omega) | (simp; done) | (simp; omega) | (simp [LstSt.init, LstSt.step, LstInv.init, CntSt.init, CntSt.step, CntInv.init, WhlSt.init, WhlSt.step]; done) | (simp [LstSt.init, LstSt.step, LstInv.init, CntSt.init, CntSt.step, CntInv.init, WhlSt.init, WhlSt.step]; omega))⟩, trivial⟩, ⟨⟨rfl, rfl, rfl⟩, trivial⟩, trivial⟩
  have hI1 : (x1.s).length = (p0).length := by simpa using x1.hI
  refine seqE ?_
  refine seqE ?_
  refine lenM fun hN2 => ?_
  refine tstL (fun hi1 => ?_) (fun hi1 => ?_)
  · have hb1 := (x1.bdy hi1).trans (laws_toPolS_b1.eq_1 ..)
    have hw1 := wrap_succ hi1 (by first | assumption | omega)
    refine seqE ?_
    refine idxAtR (Pol.cells_eq false) hi1 ?_
    refine .inl (⟨_, _, hrec0 (p0[x1.i]'hi1) (by first | exact hm0 _ (List.getElem_mem _) | exact hm0 _ (List.mem_of_getElem? (by assumption)) | exact Nat.lt_of_lt_of_le (Pol.dep_lt (List.getElem_mem _)) (Nat.le_of_lt_succ hd0) | exact Nat.lt_of_lt_of_le (Pol.dep_lt (List.mem_of_getElem? (by assumption))) (Nat.le_of_lt_succ hd0)) (by exact hs.get hi1), (FzAs.same _), ?_⟩)
    refine litE (m := 2) rfl ?_
    refine andE (by (first | omega | (simp (disch := omega) only [wrap_small, mid_eq, List.length_map]; omega) | (simp; done) | (simp; omega) | (simp at *; omega) | (simp at *; done) | (simp_all; done) | (simp_all; omega))) ?_
    refine rowsE (Y := List.map (Pol.cells true) (List.set x1.s x1.i (r0 (p0[x1.i]'hi1)))) (by exact setMapE (by simp) (fun a ha => by first | rfl | (simp only [ha, Option.getD_some]; rfl) | (obtain ⟨_, rfl⟩ := List.getElem?_eq_some_iff.1 ha; rfl) | (simp only [Pol.cells_eq]; rfl) | (simp only [ha, Option.getD_some, Pol.cells_eq]; rfl))) ?_
    exact x1.goE hi1 hb1 (by simpa using x1.hI) [some 0] ⟨rfl, ⟨(eqInt hw1), rfl, ⟨rfl, rfl, rfl, rfl, by (first | rfl | omega | (dsimp only; omega) | (simp; done) | (simp; omega) | (simp [LstSt.init, LstSt.step, LstInv.init, CntSt.init, CntSt.step, CntInv.init, WhlSt.init, WhlSt.step]; done) | (simp [LstSt.init, LstSt.step, LstInv.init, CntSt.init, CntSt.step, CntInv.init, WhlSt.init, WhlSt.step]; omega))⟩, trivial⟩, ⟨⟨rfl, rfl, rfl⟩, trivial⟩, trivial⟩
  have hg := finE hg (x1.fin hi1)
  refine seqE ?_
  exact leafE hown hg
def laws_toPolR : Nat → Pol → Pol
  | 0, _ => default
  | n + 1, p0 => (Pol.mk p0.Kind p0.N p0.Key p0.Text (laws_toPolS (laws_toPolR n) p0.L))
theorem cR_laws_toPol : ∀ (n : Nat) (p0 : Pol), Pol.dep p0 < n → Pol.bd 1048576 p0 → FnOk prog 50 [.agg (Pol.opn false p0)] ⟨.agg (Pol.opn true (laws_toPolR n p0)), [], [], false⟩ := by
  intro n
  induction n with
  | zero => intro p0 hd0; omega
  | succ n ih =>
    intro p0 hd0 hs
    refine FnOk.intro (E := env) envOk wide func50 rfl (by kernel_rfl) rfl rfl ?_
    rw [Pol.bd_eq] at hs
    have hg : laws_toPolR (n + 1) p0 = _ := laws_toPolR.eq_2 ..
    have hown : ∀ g : Pol, AV.Own (AV.agg (Pol.opn true g)) := fun g => ownO_Pol _
    refine seqE ?_
    refine litE (m := 0) rfl ?_
    refine litE (m := 1) rfl ?_
    refine seqE ?_
    refine litE (m := 2) rfl ?_
    refine seqE ?_
    refine seqE ?_
    refine seqE ?_
    refine seqE ?_
    refine seqE ?_
    refine .inl (⟨_, _, c_laws_toPolS (laws_toPolR n) p0.L n ih (by first | exact hm0 | exact fun x hx => Nat.lt_of_lt_of_le (Pol.dep_lt hx) (Nat.le_of_lt_succ hd0)) (by exact hs.2.2), (FzAs.same _), ?_⟩)
    refine litE (m := 4) rfl ?_
    refine seqE ?_
    exact leafE hown hg
def laws_toPol (p0 : Pol) : Pol := laws_toPolR (Pol.dep p0 + 1) p0
theorem c_laws_toPol (p0 : Pol) (hs : Pol.bd 1048576 p0) : FnOk prog 50 [.agg (Pol.opn false p0)] ⟨.agg (Pol.opn true (laws_toPol p0)), [], [], false⟩ := cR_laws_toPol _ p0 (Nat.lt_succ_self _) hs
theorem idR_laws_toPol : ∀ (n : Nat) (x : Pol), Pol.dep x < n → laws_toPolR n x = x := by
  intro n
  induction n with
  | zero => intro x h; omega
  | succ n ih =>
    intro x h
    have e : laws_toPolS (laws_toPolR n) x.L = x.L := setS_okM (b := laws_toPolS_b1 (laws_toPolR n)) x.L (fun a ha => ih a (Nat.lt_of_lt_of_le (Pol.dep_lt ha) (Nat.le_of_lt_succ h))) (fun _ _ _ => rfl) (fun _ => rfl)
    cases x
    simp only [laws_toPolR]
    simp only at e
    rw [e]
theorem id_laws_toPol (x : Pol) : laws_toPol x = x := idR_laws_toPol _ x (Nat.lt_succ_self _)
def laws_toConf (p0 : Conf) : Conf :=
  (Conf.mk p0.Stripes p0.Wait p0.Budget p0.Cache p0.Queue p0.Rate p0.Burst (laws_toPol p0.Rule))
theorem c_laws_toConf (p0 : Conf) (hs : Conf.bd 1048576 p0) : FnOk prog 18 [.agg ((Conf.cells false) p0)] ⟨.agg ((Conf.cells true) (laws_toConf p0)), [], [], false⟩ := by
  refine FnOk.intro (E := env) envOk wide func18 rfl (by kernel_rfl) rfl rfl ?_
  unfold Conf.bd at hs
  have hg := laws_toConf.eq_1 p0
  have hown : ∀ g : Conf, AV.Own (AV.agg ((Conf.cells true) g)) := fun g => own_Conf _
  refine seqE ?_
  refine litE (m := 0) rfl ?_
  refine litE (m := 1) rfl ?_
  refine seqE ?_
  refine litE (m := 2) rfl ?_
  refine seqE ?_
  refine seqE ?_
  refine seqE ?_
  refine seqE ?_
  refine seqE ?_
  refine seqE ?_
  refine seqE ?_
  refine seqE ?_
  refine .inl (⟨_, _, c_laws_toPol p0.Rule (by exact hs), (FzAs.same _), ?_⟩)
  refine litE (m := 4) rfl ?_
  refine seqE ?_
  exact leafE hown hg
theorem id_laws_toConf (x : Conf) : laws_toConf x = x := by
  first | rfl | (simp only [laws_toConf, id_laws_toPol]; done) | (simp only [laws_toConf, id_laws_toPol]; rfl)
def laws_toAttr (p0 : Attr) : Attr :=
  p0
theorem c_laws_toAttr (p0 : Attr) : FnOk prog 163 [.agg (Attr.cells p0)] ⟨.agg (Attr.cells (laws_toAttr p0)), [], [], false⟩ := by
  refine FnOk.intro (E := env) envOk wide func163 rfl (by kernel_rfl) rfl rfl ?_
  have hg := laws_toAttr.eq_1 p0
  have hown : ∀ g : Attr, AV.Own (AV.agg (Attr.cells g)) := fun g => own_Attr _
  refine seqE ?_
  refine litE (m := 0) rfl ?_
  refine litE (m := 1) rfl ?_
  refine seqE ?_
  refine litE (m := 2) rfl ?_
  refine seqE ?_
  refine seqE ?_
  refine seqE ?_
  refine seqE ?_
  refine seqE ?_
  exact leafE hown hg
theorem id_laws_toAttr (x : Attr) : laws_toAttr x = x := by
  first | rfl | (simp only [laws_toAttr]; done) | (simp only [laws_toAttr]; rfl)
def laws_toAttrS_b1 (i1 : Nat) (s1 : (List Attr)) (a1 : Attr) : Step ((List Attr)) (List Attr) :=
  (.next (List.set s1 i1 (laws_toAttr a1)))
def laws_toAttrS (p0 : (List Attr)) : (List Attr) :=
  (Fin.get (fun s1 => s1) (loopL laws_toAttrS_b1 0 (List.replicate (p0).length (default : Attr)) p0))
theorem c_laws_toAttrS (p0 : (List Attr)) (hs : bdS Attr.bd 1048576 p0) : FnOk prog 142 [.one (.s false 4 (List.map Attr.cells p0))] ⟨.one (.s true 4 (List.map Attr.cells (laws_toAttrS p0))), [], [], false⟩ := by
  refine FnOk.intro (E := env) envOk wide func142 rfl (by kernel_rfl) rfl rfl ?_
  have hs1 := hs.1
  have hg := laws_toAttrS.eq_1 p0
  have hown : ∀ g : (List Attr), AV.Own (AV.one (.s true 4 (List.map Attr.cells g))) := fun g => ownSl own_Attr _
  refine seqE ?_
  refine seqE ?_
  refine lenM fun hN1 => ?_
  refine And.intro (by exact ⟨rfl, by omega, by show ((48 : Nat) : Int) * _ ≤ _; omega, by omega⟩) (rowsE (Y := List.map Attr.cells (List.replicate (p0).length (default : Attr))) (by rw [List.map_replicate]; rfl) ?_)
  refine litE (m := 0) rfl ?_
  refine seqE ?_
  refine seqE ?_
  refine loopLI (fun _ s => (s).length = (p0).length) hg (by simp) [0, 3] (fun x1 => [(4, .one (.v (.int .i64 ((x1.i : Nat) : Int))))]) (fun x1 => [.new ⟨4, false, List.map Attr.cells x1.s, 0⟩]) [some 0] ?_ (fun x1 => ?_)
  · exact ⟨rfl, ⟨rfl, rfl, ⟨rfl, rfl, rfl, rfl, by (first | rfl | omega | (dsimp only; omega) | (simp; done) | (simp; omega) | (simp [LstSt.init, LstSt.step, LstInv.init, CntSt.init, CntSt.step, CntInv.init, WhlSt.init, WhlSt.step]; done) | (simp [LstSt.init, LstSt.step, LstInv.init, CntSt.init, CntSt.step, CntInv.init, WhlSt.init, WhlSt.step]; omega))⟩, trivial⟩, ⟨⟨rfl, rfl, rfl⟩, trivial⟩, trivial⟩
  have hI1 : (x1.s).length = (p0).length := by simpa using x1.hI
  refine seqE ?_
  refine seqE ?_
  refine lenM fun hN2 => ?_
  refine tstL (fun hi1 => ?_) (fun hi1 => ?_)
  · have hb1 := (x1.bdy hi1).trans (laws_toAttrS_b1.eq_1 ..)
    have hw1 := wrap_succ hi1 (by first | assumption | omega)
    refine seqE ?_
    refine idxAt hi1 ?_
    refine .inl (⟨_, _, c_laws_toAttr (p0[x1.i]'hi1), (FzAs.same _), ?_⟩)
    refine litE (m := 2) rfl ?_
    refine andE (by (first | omega | (simp (disch := omega) only [wrap_small, mid_eq, List.length_map]; omega) | (simp; done) | (simp; omega) | (simp at *; omega) | (simp at *; done) | (simp_all; done) | (simp_all; omega))) ?_
    refine rowsE (Y := List.map Attr.cells (List.set x1.s x1.i (laws_toAttr (p0[x1.i]'hi1)))) (by exact setMapE (by simp) (fun a ha => by first | rfl | (simp only [ha, Option.getD_some]; rfl) | (obtain ⟨_, rfl⟩ := List.getElem?_eq_some_iff.1 ha; rfl) | (simp only [Pol.cells_eq]; rfl) | (simp only [ha, Option.getD_some, Pol.cells_eq]; rfl))) ?_
    exact x1.goE hi1 hb1 (by simpa using x1.hI) [some 0] ⟨rfl, ⟨(eqInt hw1), rfl, ⟨rfl, rfl, rfl, rfl, by (first | rfl | omega | (dsimp only; omega) | (simp; done) | (simp; omega) | (simp [LstSt.init, LstSt.step, LstInv.init, CntSt.init, CntSt.step, CntInv.init, WhlSt.init, WhlSt.step]; done) | (simp [LstSt.init, LstSt.step, LstInv.init, CntSt.init, CntSt.step, CntInv.init, WhlSt.init, WhlSt.step]; omega))⟩, trivial⟩, ⟨⟨rfl, rfl, rfl⟩, trivial⟩, trivial⟩
  have hg := finE hg (x1.fin hi1)
  refine seqE ?_
  exact leafE hown hg
theorem id_laws_toAttrS (x : (List Attr)) : laws_toAttrS x = x := setS_ok (b := laws_toAttrS_b1) id_laws_toAttr (fun _ _ _ => rfl) (fun _ => rfl) x
def laws_toSpan (p0 : Span) : Span :=
  (Span.mk p0.Trace p0.Id p0.Start p0.End p0.Err (laws_toAttrS p0.Attrs))
theorem c_laws_toSpan (p0 : Span) (hs : Span.bd 1048576 p0) : FnOk prog 101 [.agg ((Span.cells false) p0)] ⟨.agg ((Span.cells true) (laws_toSpan p0)), [], [], false⟩ := by
  refine FnOk.intro (E := env) envOk wide func101 rfl (by kernel_rfl) rfl rfl ?_
  unfold Span.bd at hs
  have hg := laws_toSpan.eq_1 p0
  have hown : ∀ g : Span, AV.Own (AV.agg ((Span.cells true) g)) := fun g => own_Span _
  refine seqE ?_
  refine litE (m := 0) rfl ?_
  refine litE (m := 1) rfl ?_
  refine seqE ?_
  refine litE (m := 2) rfl ?_
  refine seqE ?_
  refine seqE ?_
  refine seqE ?_
  refine seqE ?_
  refine seqE ?_
  refine seqE ?_
  refine .inl (⟨_, _, c_laws_toAttrS p0.Attrs (by exact hs), (FzAs.same _), ?_⟩)
  refine litE (m := 4) rfl ?_
  refine seqE ?_
  exact leafE hown hg
theorem id_laws_toSpan (x : Span) : laws_toSpan x = x := by
  first | rfl | (simp only [laws_toSpan, id_laws_toAttrS]; done) | (simp only [laws_toSpan, id_laws_toAttrS]; rfl)
def laws_toSpanS_b1 (i1 : Nat) (s1 : (List Span)) (a1 : Span) : Step ((List Span)) (List Span) :=
  (.next (List.set s1 i1 (laws_toSpan a1)))
def laws_toSpanS (p0 : (List Span)) : (List Span) :=
  (Fin.get (fun s1 => s1) (loopL laws_toSpanS_b1 0 (List.replicate (p0).length (default : Span)) p0))
theorem c_laws_toSpanS (p0 : (List Span)) (hs : bdS Span.bd 1048576 p0) : FnOk prog 181 [.one (.s false 6 (List.map (Span.cells false) p0))] ⟨.one (.s true 6 (List.map (Span.cells true) (laws_toSpanS p0))), [], [], false⟩ := by
  refine FnOk.intro (E := env) envOk wide func181 rfl (by kernel_rfl) rfl rfl ?_
  have hs1 := hs.1
  have hg := laws_toSpanS.eq_1 p0
  have hown : ∀ g : (List Span), AV.Own (AV.one (.s true 6 (List.map (Span.cells true) g))) := fun g => ownSl own_Span _
  refine seqE ?_
  refine seqE ?_
  refine lenM fun hN1 => ?_
  refine And.intro (by exact ⟨rfl, by omega, by show ((64 : Nat) : Int) * _ ≤ _; omega, by omega⟩) (rowsE (Y := List.map (Span.cells true) (List.replicate (p0).length (default : Span))) (by rw [List.map_replicate]; rfl) ?_)
  refine litE (m := 0) rfl ?_
  refine seqE ?_
  refine seqE ?_
  refine loopLI (fun _ s => (s).length = (p0).length) hg (by simp) [0, 3] (fun x1 => [(4, .one (.v (.int .i64 ((x1.i : Nat) : Int))))]) (fun x1 => [.new ⟨6, false, List.map (Span.cells true) x1.s, 0⟩]) [some 0] ?_ (fun x1 => ?_)
  · exact ⟨rfl, ⟨rfl, rfl, ⟨rfl, rfl, rfl, rfl, by (first | rfl | omega | (dsimp only; omega) | (simp; done) | (simp; omega) | (simp [LstSt.init, LstSt.step, LstInv.init, CntSt.init, CntSt.step, CntInv.init, WhlSt.init, WhlSt.step]; done) | (simp [LstSt.init, LstSt.step, LstInv.init, CntSt.init, CntSt.step, CntInv.init, WhlSt.init, WhlSt.step]; omega))⟩, trivial⟩, ⟨⟨rfl, rfl, rfl⟩, trivial⟩, trivial⟩
  have hI1 : (x1.s).length = (p0).length := by simpa using x1.hI
  refine seqE ?_
  refine seqE ?_
  refine lenM fun hN2 => ?_
  refine tstL (fun hi1 => ?_) (fun hi1 => ?_)
  · have hb1 := (x1.bdy hi1).trans (laws_toSpanS_b1.eq_1 ..)
    have hw1 := wrap_succ hi1 (by first | assumption | omega)
    refine seqE ?_
    refine idxAt hi1 ?_
    refine .inl (⟨_, _, c_laws_toSpan (p0[x1.i]'hi1) (by exact hs.get hi1), (FzAs.same _), ?_⟩)
    refine litE (m := 2) rfl ?_
    refine andE (by (first | omega | (simp (disch := omega) only [wrap_small, mid_eq, List.length_map]; omega) | (simp; done) | (simp; omega) | (simp at *; omega) | (simp at *; done) | (simp_all; done) | (simp_all; omega))) ?_
    refine rowsE (Y := List.map (Span.cells true) (List.set x1.s x1.i (laws_toSpan (p0[x1.i]'hi1)))) (by exact setMapE (by simp) (fun a ha => by first | rfl | (simp only [ha, Option.getD_some]; rfl) | (obtain ⟨_, rfl⟩ := List.getElem?_eq_some_iff.1 ha; rfl) | (simp only [Pol.cells_eq]; rfl) | (simp only [ha, Option.getD_some, Pol.cells_eq]; rfl))) ?_
    exact x1.goE hi1 hb1 (by simpa using x1.hI) [some 0] ⟨rfl, ⟨(eqInt hw1), rfl, ⟨rfl, rfl, rfl, rfl, by (first | rfl | omega | (dsimp only; omega) | (simp; done) | (simp; omega) | (simp [LstSt.init, LstSt.step, LstInv.init, CntSt.init, CntSt.step, CntInv.init, WhlSt.init, WhlSt.step]; done) | (simp [LstSt.init, LstSt.step, LstInv.init, CntSt.init, CntSt.step, CntInv.init, WhlSt.init, WhlSt.step]; omega))⟩, trivial⟩, ⟨⟨rfl, rfl, rfl⟩, trivial⟩, trivial⟩
  have hg := finE hg (x1.fin hi1)
  refine seqE ?_
  exact leafE hown hg
theorem id_laws_toSpanS (x : (List Span)) : laws_toSpanS x = x := setS_ok (b := laws_toSpanS_b1) id_laws_toSpan (fun _ _ _ => rfl) (fun _ => rfl) x
def laws_toTrail (p0 : Trail) : Trail :=
  (Trail.mk p0.Id p0.Stamp p0.First (laws_toSpanS p0.Spans))
theorem c_laws_toTrail (p0 : Trail) (hs : Trail.bd 1048576 p0) : FnOk prog 173 [.agg ((Trail.cells false) p0)] ⟨.agg ((Trail.cells true) (laws_toTrail p0)), [], [], false⟩ := by
  refine FnOk.intro (E := env) envOk wide func173 rfl (by kernel_rfl) rfl rfl ?_
  unfold Trail.bd at hs
  have hg := laws_toTrail.eq_1 p0
  have hown : ∀ g : Trail, AV.Own (AV.agg ((Trail.cells true) g)) := fun g => own_Trail _
  refine seqE ?_
  refine litE (m := 0) rfl ?_
  refine litE (m := 1) rfl ?_
  refine seqE ?_
  refine litE (m := 2) rfl ?_
  refine seqE ?_
  refine seqE ?_
  refine seqE ?_
  refine seqE ?_
  refine .inl (⟨_, _, c_laws_toSpanS p0.Spans (by exact hs), (FzAs.same _), ?_⟩)
  refine litE (m := 4) rfl ?_
  refine seqE ?_
  exact leafE hown hg
theorem id_laws_toTrail (x : Trail) : laws_toTrail x = x := by
  first | rfl | (simp only [laws_toTrail, id_laws_toSpanS]; done) | (simp only [laws_toTrail, id_laws_toSpanS]; rfl)
def laws_toTrailS_b1 (i1 : Nat) (s1 : (List Trail)) (a1 : Trail) : Step ((List Trail)) (List Trail) :=
  (.next (List.set s1 i1 (laws_toTrail a1)))
def laws_toTrailS (p0 : (List Trail)) : (List Trail) :=
  (Fin.get (fun s1 => s1) (loopL laws_toTrailS_b1 0 (List.replicate (p0).length (default : Trail)) p0))
theorem c_laws_toTrailS (p0 : (List Trail)) (hs : bdS Trail.bd 1048576 p0) : FnOk prog 159 [.one (.s false 4 (List.map (Trail.cells false) p0))] ⟨.one (.s true 4 (List.map (Trail.cells true) (laws_toTrailS p0))), [], [], false⟩ := by
  refine FnOk.intro (E := env) envOk wide func159 rfl (by kernel_rfl) rfl rfl ?_
  have hs1 := hs.1
  have hg := laws_toTrailS.eq_1 p0
  have hown : ∀ g : (List Trail), AV.Own (AV.one (.s true 4 (List.map (Trail.cells true) g))) := fun g => ownSl own_Trail _
  refine seqE ?_
  refine seqE ?_
  refine lenM fun hN1 => ?_
  refine And.intro (by exact ⟨rfl, by omega, by show ((48 : Nat) : Int) * _ ≤ _; omega, by omega⟩) (rowsE (Y := List.map (Trail.cells true) (List.replicate (p0).length (default : Trail))) (by rw [List.map_replicate]; rfl) ?_)
  refine litE (m := 0) rfl ?_
  refine seqE ?_
  refine seqE ?_
  refine loopLI (fun _ s => (s).length = (p0).length) hg (by simp) [0, 3] (fun x1 => [(4, .one (.v (.int .i64 ((x1.i : Nat) : Int))))]) (fun x1 => [.new ⟨4, false, List.map (Trail.cells true) x1.s, 0⟩]) [some 0] ?_ (fun x1 => ?_)
  · exact ⟨rfl, ⟨rfl, rfl, ⟨rfl, rfl, rfl, rfl, by (first | rfl | omega | (dsimp only; omega) | (simp; done) | (simp; omega) | (simp [LstSt.init, LstSt.step, LstInv.init, CntSt.init, CntSt.step, CntInv.init, WhlSt.init, WhlSt.step]; done) | (simp [LstSt.init, LstSt.step, LstInv.init, CntSt.init, CntSt.step, CntInv.init, WhlSt.init, WhlSt.step]; omega))⟩, trivial⟩, ⟨⟨rfl, rfl, rfl⟩, trivial⟩, trivial⟩
  have hI1 : (x1.s).length = (p0).length := by simpa using x1.hI
  refine seqE ?_
  refine seqE ?_
  refine lenM fun hN2 => ?_
  refine tstL (fun hi1 => ?_) (fun hi1 => ?_)
  · have hb1 := (x1.bdy hi1).trans (laws_toTrailS_b1.eq_1 ..)
    have hw1 := wrap_succ hi1 (by first | assumption | omega)
    refine seqE ?_
    refine idxAt hi1 ?_
    refine .inl (⟨_, _, c_laws_toTrail (p0[x1.i]'hi1) (by exact hs.get hi1), (FzAs.same _), ?_⟩)
    refine litE (m := 2) rfl ?_
    refine andE (by (first | omega | (simp (disch := omega) only [wrap_small, mid_eq, List.length_map]; omega) | (simp; done) | (simp; omega) | (simp at *; omega) | (simp at *; done) | (simp_all; done) | (simp_all; omega))) ?_
    refine rowsE (Y := List.map (Trail.cells true) (List.set x1.s x1.i (laws_toTrail (p0[x1.i]'hi1)))) (by exact setMapE (by simp) (fun a ha => by first | rfl | (simp only [ha, Option.getD_some]; rfl) | (obtain ⟨_, rfl⟩ := List.getElem?_eq_some_iff.1 ha; rfl) | (simp only [Pol.cells_eq]; rfl) | (simp only [ha, Option.getD_some, Pol.cells_eq]; rfl))) ?_
    exact x1.goE hi1 hb1 (by simpa using x1.hI) [some 0] ⟨rfl, ⟨(eqInt hw1), rfl, ⟨rfl, rfl, rfl, rfl, by (first | rfl | omega | (dsimp only; omega) | (simp; done) | (simp; omega) | (simp [LstSt.init, LstSt.step, LstInv.init, CntSt.init, CntSt.step, CntInv.init, WhlSt.init, WhlSt.step]; done) | (simp [LstSt.init, LstSt.step, LstInv.init, CntSt.init, CntSt.step, CntInv.init, WhlSt.init, WhlSt.step]; omega))⟩, trivial⟩, ⟨⟨rfl, rfl, rfl⟩, trivial⟩, trivial⟩
  have hg := finE hg (x1.fin hi1)
  refine seqE ?_
  exact leafE hown hg
theorem id_laws_toTrailS (x : (List Trail)) : laws_toTrailS x = x := setS_ok (b := laws_toTrailS_b1) id_laws_toTrail (fun _ _ _ => rfl) (fun _ => rfl) x
def laws_toStripe (p0 : Stripe) : Stripe :=
  (Stripe.mk p0.Held (laws_toTrailS p0.L))
theorem c_laws_toStripe (p0 : Stripe) (hs : Stripe.bd 1048576 p0) : FnOk prog 123 [.agg ((Stripe.cells false) p0)] ⟨.agg ((Stripe.cells true) (laws_toStripe p0)), [], [], false⟩ := by
  refine FnOk.intro (E := env) envOk wide func123 rfl (by kernel_rfl) rfl rfl ?_
  unfold Stripe.bd at hs
  have hg := laws_toStripe.eq_1 p0
  have hown : ∀ g : Stripe, AV.Own (AV.agg ((Stripe.cells true) g)) := fun g => own_Stripe _
  refine seqE ?_
  refine litE (m := 0) rfl ?_
  refine litE (m := 1) rfl ?_
  refine seqE ?_
  refine litE (m := 2) rfl ?_
  refine seqE ?_
  refine seqE ?_
  refine .inl (⟨_, _, c_laws_toTrailS p0.L (by exact hs), (FzAs.same _), ?_⟩)
  refine litE (m := 4) rfl ?_
  refine seqE ?_
  exact leafE hown hg
theorem id_laws_toStripe (x : Stripe) : laws_toStripe x = x := by
  first | rfl | (simp only [laws_toStripe, id_laws_toTrailS]; done) | (simp only [laws_toStripe, id_laws_toTrailS]; rfl)
def laws_toStripeS_b1 (i1 : Nat) (s1 : (List Stripe)) (a1 : Stripe) : Step ((List Stripe)) (List Stripe) :=
  (.next (List.set s1 i1 (laws_toStripe a1)))
def laws_toStripeS (p0 : (List Stripe)) : (List Stripe) :=
  (Fin.get (fun s1 => s1) (loopL laws_toStripeS_b1 0 (List.replicate (p0).length (default : Stripe)) p0))
theorem c_laws_toStripeS (p0 : (List Stripe)) (hs : bdS Stripe.bd 1048576 p0) : FnOk prog 71 [.one (.s false 2 (List.map (Stripe.cells false) p0))] ⟨.one (.s true 2 (List.map (Stripe.cells true) (laws_toStripeS p0))), [], [], false⟩ := by
  refine FnOk.intro (E := env) envOk wide func71 rfl (by kernel_rfl) rfl rfl ?_
  have hs1 := hs.1
  have hg := laws_toStripeS.eq_1 p0
  have hown : ∀ g : (List Stripe), AV.Own (AV.one (.s true 2 (List.map (Stripe.cells true) g))) := fun g => ownSl own_Stripe _
  refine seqE ?_
  refine seqE ?_
  refine lenM fun hN1 => ?_
  refine And.intro (by exact ⟨rfl, by omega, by show ((32 : Nat) : Int) * _ ≤ _; omega, by omega⟩) (rowsE (Y := List.map (Stripe.cells true) (List.replicate (p0).length (default : Stripe))) (by rw [List.map_replicate]; rfl) ?_)
  refine litE (m := 0) rfl ?_
  refine seqE ?_
  refine seqE ?_
  refine loopLI (fun _ s => (s).length = (p0).length) hg (by simp) [0, 3] (fun x1 => [(4, .one (.v (.int .i64 ((x1.i : Nat) : Int))))]) (fun x1 => [.new ⟨2, false, List.map (Stripe.cells true) x1.s, 0⟩]) [some 0] ?_ (fun x1 => ?_)
  · exact ⟨rfl, ⟨rfl, rfl, ⟨rfl, rfl, rfl, rfl, by (first | rfl | omega | (dsimp only; omega) | (simp; done) | (simp; omega) | (simp [LstSt.init, LstSt.step, LstInv.init, CntSt.init, CntSt.step, CntInv.init, WhlSt.init, WhlSt.step]; done) | (simp [LstSt.init, LstSt.step, LstInv.init, CntSt.init, CntSt.step, CntInv.init, WhlSt.init, WhlSt.step]; omega))⟩, trivial⟩, ⟨⟨rfl, rfl, rfl⟩, trivial⟩, trivial⟩
  have hI1 : (x1.s).length = (p0).length := by simpa using x1.hI
  refine seqE ?_
  refine seqE ?_
  refine lenM fun hN2 => ?_
  refine tstL (fun hi1 => ?_) (fun hi1 => ?_)
  · have hb1 := (x1.bdy hi1).trans (laws_toStripeS_b1.eq_1 ..)
    have hw1 := wrap_succ hi1 (by first | assumption | omega)
    refine seqE ?_
    refine idxAt hi1 ?_
    refine .inl (⟨_, _, c_laws_toStripe (p0[x1.i]'hi1) (by exact hs.get hi1), (FzAs.same _), ?_⟩)
    refine litE (m := 2) rfl ?_
    refine andE (by (first | omega | (simp (disch := omega) only [wrap_small, mid_eq, List.length_map]; omega) | (simp; done) | (simp; omega) | (simp at *; omega) | (simp at *; done) | (simp_all; done) | (simp_all; omega))) ?_
    refine rowsE (Y := List.map (Stripe.cells true) (List.set x1.s x1.i (laws_toStripe (p0[x1.i]'hi1)))) (by exact setMapE (by simp) (fun a ha => by first | rfl | (simp only [ha, Option.getD_some]; rfl) | (obtain ⟨_, rfl⟩ := List.getElem?_eq_some_iff.1 ha; rfl) | (simp only [Pol.cells_eq]; rfl) | (simp only [ha, Option.getD_some, Pol.cells_eq]; rfl))) ?_
    exact x1.goE hi1 hb1 (by simpa using x1.hI) [some 0] ⟨rfl, ⟨(eqInt hw1), rfl, ⟨rfl, rfl, rfl, rfl, by (first | rfl | omega | (dsimp only; omega) | (simp; done) | (simp; omega) | (simp [LstSt.init, LstSt.step, LstInv.init, CntSt.init, CntSt.step, CntInv.init, WhlSt.init, WhlSt.step]; done) | (simp [LstSt.init, LstSt.step, LstInv.init, CntSt.init, CntSt.step, CntInv.init, WhlSt.init, WhlSt.step]; omega))⟩, trivial⟩, ⟨⟨rfl, rfl, rfl⟩, trivial⟩, trivial⟩
  have hg := finE hg (x1.fin hi1)
  refine seqE ?_
  exact leafE hown hg
theorem id_laws_toStripeS (x : (List Stripe)) : laws_toStripeS x = x := setS_ok (b := laws_toStripeS_b1) id_laws_toStripe (fun _ _ _ => rfl) (fun _ => rfl) x
def laws_toBucket (p0 : Bucket) : Bucket :=
  p0
theorem c_laws_toBucket (p0 : Bucket) : FnOk prog 72 [.agg (Bucket.cells p0)] ⟨.agg (Bucket.cells (laws_toBucket p0)), [], [], false⟩ := by
  refine FnOk.intro (E := env) envOk wide func72 rfl (by kernel_rfl) rfl rfl ?_
  have hg := laws_toBucket.eq_1 p0
  have hown : ∀ g : Bucket, AV.Own (AV.agg (Bucket.cells g)) := fun g => own_Bucket _
  refine seqE ?_
  refine litE (m := 0) rfl ?_
  refine litE (m := 1) rfl ?_
  refine seqE ?_
  refine litE (m := 2) rfl ?_
  refine seqE ?_
  refine seqE ?_
  refine seqE ?_
  refine seqE ?_
  refine seqE ?_
  exact leafE hown hg
theorem id_laws_toBucket (x : Bucket) : laws_toBucket x = x := by
  first | rfl | (simp only [laws_toBucket]; done) | (simp only [laws_toBucket]; rfl)
def laws_toVerdict (p0 : Verdict) : Verdict :=
  p0
theorem c_laws_toVerdict (p0 : Verdict) : FnOk prog 124 [.agg (Verdict.cells p0)] ⟨.agg (Verdict.cells (laws_toVerdict p0)), [], [], false⟩ := by
  refine FnOk.intro (E := env) envOk wide func124 rfl (by kernel_rfl) rfl rfl ?_
  have hg := laws_toVerdict.eq_1 p0
  have hown : ∀ g : Verdict, AV.Own (AV.agg (Verdict.cells g)) := fun g => own_Verdict _
  refine seqE ?_
  refine litE (m := 0) rfl ?_
  refine litE (m := 1) rfl ?_
  refine seqE ?_
  refine litE (m := 2) rfl ?_
  refine seqE ?_
  refine seqE ?_
  refine seqE ?_
  refine seqE ?_
  exact leafE hown hg
theorem id_laws_toVerdict (x : Verdict) : laws_toVerdict x = x := by
  first | rfl | (simp only [laws_toVerdict]; done) | (simp only [laws_toVerdict]; rfl)
def laws_toVerdictS_b1 (i1 : Nat) (s1 : (List Verdict)) (a1 : Verdict) : Step ((List Verdict)) (List Verdict) :=
  (.next (List.set s1 i1 (laws_toVerdict a1)))
def laws_toVerdictS (p0 : (List Verdict)) : (List Verdict) :=
  (Fin.get (fun s1 => s1) (loopL laws_toVerdictS_b1 0 (List.replicate (p0).length (default : Verdict)) p0))
theorem c_laws_toVerdictS (p0 : (List Verdict)) (hs : bdS Verdict.bd 1048576 p0) : FnOk prog 73 [.one (.s false 3 (List.map Verdict.cells p0))] ⟨.one (.s true 3 (List.map Verdict.cells (laws_toVerdictS p0))), [], [], false⟩ := by
  refine FnOk.intro (E := env) envOk wide func73 rfl (by kernel_rfl) rfl rfl ?_
  have hs1 := hs.1
  have hg := laws_toVerdictS.eq_1 p0
  have hown : ∀ g : (List Verdict), AV.Own (AV.one (.s true 3 (List.map Verdict.cells g))) := fun g => ownSl own_Verdict _
  refine seqE ?_
  refine seqE ?_
  refine lenM fun hN1 => ?_
  refine And.intro (by exact ⟨rfl, by omega, by show ((24 : Nat) : Int) * _ ≤ _; omega, by omega⟩) (rowsE (Y := List.map Verdict.cells (List.replicate (p0).length (default : Verdict))) (by rw [List.map_replicate]; rfl) ?_)
  refine litE (m := 0) rfl ?_
  refine seqE ?_
  refine seqE ?_
  refine loopLI (fun _ s => (s).length = (p0).length) hg (by simp) [0, 3] (fun x1 => [(4, .one (.v (.int .i64 ((x1.i : Nat) : Int))))]) (fun x1 => [.new ⟨3, false, List.map Verdict.cells x1.s, 0⟩]) [some 0] ?_ (fun x1 => ?_)
  · exact ⟨rfl, ⟨rfl, rfl, ⟨rfl, rfl, rfl, rfl, by (first | rfl | omega | (dsimp only; omega) | (simp; done) | (simp; omega) | (simp [LstSt.init, LstSt.step, LstInv.init, CntSt.init, CntSt.step, CntInv.init, WhlSt.init, WhlSt.step]; done) | (simp [LstSt.init, LstSt.step, LstInv.init, CntSt.init, CntSt.step, CntInv.init, WhlSt.init, WhlSt.step]; omega))⟩, trivial⟩, ⟨⟨rfl, rfl, rfl⟩, trivial⟩, trivial⟩
  have hI1 : (x1.s).length = (p0).length := by simpa using x1.hI
  refine seqE ?_
  refine seqE ?_
  refine lenM fun hN2 => ?_
  refine tstL (fun hi1 => ?_) (fun hi1 => ?_)
  · have hb1 := (x1.bdy hi1).trans (laws_toVerdictS_b1.eq_1 ..)
    have hw1 := wrap_succ hi1 (by first | assumption | omega)
    refine seqE ?_
    refine idxAt hi1 ?_
    refine .inl (⟨_, _, c_laws_toVerdict (p0[x1.i]'hi1), (FzAs.same _), ?_⟩)
    refine litE (m := 2) rfl ?_
    refine andE (by (first | omega | (simp (disch := omega) only [wrap_small, mid_eq, List.length_map]; omega) | (simp; done) | (simp; omega) | (simp at *; omega) | (simp at *; done) | (simp_all; done) | (simp_all; omega))) ?_
    refine rowsE (Y := List.map Verdict.cells (List.set x1.s x1.i (laws_toVerdict (p0[x1.i]'hi1)))) (by exact setMapE (by simp) (fun a ha => by first | rfl | (simp only [ha, Option.getD_some]; rfl) | (obtain ⟨_, rfl⟩ := List.getElem?_eq_some_iff.1 ha; rfl) | (simp only [Pol.cells_eq]; rfl) | (simp only [ha, Option.getD_some, Pol.cells_eq]; rfl))) ?_
    exact x1.goE hi1 hb1 (by simpa using x1.hI) [some 0] ⟨rfl, ⟨(eqInt hw1), rfl, ⟨rfl, rfl, rfl, rfl, by (first | rfl | omega | (dsimp only; omega) | (simp; done) | (simp; omega) | (simp [LstSt.init, LstSt.step, LstInv.init, CntSt.init, CntSt.step, CntInv.init, WhlSt.init, WhlSt.step]; done) | (simp [LstSt.init, LstSt.step, LstInv.init, CntSt.init, CntSt.step, CntInv.init, WhlSt.init, WhlSt.step]; omega))⟩, trivial⟩, ⟨⟨rfl, rfl, rfl⟩, trivial⟩, trivial⟩
  have hg := finE hg (x1.fin hi1)
  refine seqE ?_
  exact leafE hown hg
theorem id_laws_toVerdictS (x : (List Verdict)) : laws_toVerdictS x = x := setS_ok (b := laws_toVerdictS_b1) id_laws_toVerdict (fun _ _ _ => rfl) (fun _ => rfl) x
def laws_toTimer (p0 : Timer) : Timer :=
  p0
theorem c_laws_toTimer (p0 : Timer) : FnOk prog 126 [.agg (Timer.cells p0)] ⟨.agg (Timer.cells (laws_toTimer p0)), [], [], false⟩ := by
  refine FnOk.intro (E := env) envOk wide func126 rfl (by kernel_rfl) rfl rfl ?_
  have hg := laws_toTimer.eq_1 p0
  have hown : ∀ g : Timer, AV.Own (AV.agg (Timer.cells g)) := fun g => own_Timer _
  refine seqE ?_
  refine litE (m := 0) rfl ?_
  refine litE (m := 1) rfl ?_
  refine seqE ?_
  refine litE (m := 2) rfl ?_
  refine seqE ?_
  refine seqE ?_
  refine seqE ?_
  refine seqE ?_
  exact leafE hown hg
theorem id_laws_toTimer (x : Timer) : laws_toTimer x = x := by
  first | rfl | (simp only [laws_toTimer]; done) | (simp only [laws_toTimer]; rfl)
def laws_toTimerS_b1 (i1 : Nat) (s1 : (List Timer)) (a1 : Timer) : Step ((List Timer)) (List Timer) :=
  (.next (List.set s1 i1 (laws_toTimer a1)))
def laws_toTimerS (p0 : (List Timer)) : (List Timer) :=
  (Fin.get (fun s1 => s1) (loopL laws_toTimerS_b1 0 (List.replicate (p0).length (default : Timer)) p0))
theorem c_laws_toTimerS (p0 : (List Timer)) (hs : bdS Timer.bd 1048576 p0) : FnOk prog 75 [.one (.s false 3 (List.map Timer.cells p0))] ⟨.one (.s true 3 (List.map Timer.cells (laws_toTimerS p0))), [], [], false⟩ := by
  refine FnOk.intro (E := env) envOk wide func75 rfl (by kernel_rfl) rfl rfl ?_
  have hs1 := hs.1
  have hg := laws_toTimerS.eq_1 p0
  have hown : ∀ g : (List Timer), AV.Own (AV.one (.s true 3 (List.map Timer.cells g))) := fun g => ownSl own_Timer _
  refine seqE ?_
  refine seqE ?_
  refine lenM fun hN1 => ?_
  refine And.intro (by exact ⟨rfl, by omega, by show ((24 : Nat) : Int) * _ ≤ _; omega, by omega⟩) (rowsE (Y := List.map Timer.cells (List.replicate (p0).length (default : Timer))) (by rw [List.map_replicate]; rfl) ?_)
  refine litE (m := 0) rfl ?_
  refine seqE ?_
  refine seqE ?_
  refine loopLI (fun _ s => (s).length = (p0).length) hg (by simp) [0, 3] (fun x1 => [(4, .one (.v (.int .i64 ((x1.i : Nat) : Int))))]) (fun x1 => [.new ⟨3, false, List.map Timer.cells x1.s, 0⟩]) [some 0] ?_ (fun x1 => ?_)
  · exact ⟨rfl, ⟨rfl, rfl, ⟨rfl, rfl, rfl, rfl, by (first | rfl | omega | (dsimp only; omega) | (simp; done) | (simp; omega) | (simp [LstSt.init, LstSt.step, LstInv.init, CntSt.init, CntSt.step, CntInv.init, WhlSt.init, WhlSt.step]; done) | (simp [LstSt.init, LstSt.step, LstInv.init, CntSt.init, CntSt.step, CntInv.init, WhlSt.init, WhlSt.step]; omega))⟩, trivial⟩, ⟨⟨rfl, rfl, rfl⟩, trivial⟩, trivial⟩
  have hI1 : (x1.s).length = (p0).length := by simpa using x1.hI
  refine seqE ?_
  refine seqE ?_
  refine lenM fun hN2 => ?_
  refine tstL (fun hi1 => ?_) (fun hi1 => ?_)
  · have hb1 := (x1.bdy hi1).trans (laws_toTimerS_b1.eq_1 ..)
    have hw1 := wrap_succ hi1 (by first | assumption | omega)
    refine seqE ?_
    refine idxAt hi1 ?_
    refine .inl (⟨_, _, c_laws_toTimer (p0[x1.i]'hi1), (FzAs.same _), ?_⟩)
    refine litE (m := 2) rfl ?_
    refine andE (by (first | omega | (simp (disch := omega) only [wrap_small, mid_eq, List.length_map]; omega) | (simp; done) | (simp; omega) | (simp at *; omega) | (simp at *; done) | (simp_all; done) | (simp_all; omega))) ?_
    refine rowsE (Y := List.map Timer.cells (List.set x1.s x1.i (laws_toTimer (p0[x1.i]'hi1)))) (by exact setMapE (by simp) (fun a ha => by first | rfl | (simp only [ha, Option.getD_some]; rfl) | (obtain ⟨_, rfl⟩ := List.getElem?_eq_some_iff.1 ha; rfl) | (simp only [Pol.cells_eq]; rfl) | (simp only [ha, Option.getD_some, Pol.cells_eq]; rfl))) ?_
    exact x1.goE hi1 hb1 (by simpa using x1.hI) [some 0] ⟨rfl, ⟨(eqInt hw1), rfl, ⟨rfl, rfl, rfl, rfl, by (first | rfl | omega | (dsimp only; omega) | (simp; done) | (simp; omega) | (simp [LstSt.init, LstSt.step, LstInv.init, CntSt.init, CntSt.step, CntInv.init, WhlSt.init, WhlSt.step]; done) | (simp [LstSt.init, LstSt.step, LstInv.init, CntSt.init, CntSt.step, CntInv.init, WhlSt.init, WhlSt.step]; omega))⟩, trivial⟩, ⟨⟨rfl, rfl, rfl⟩, trivial⟩, trivial⟩
  have hg := finE hg (x1.fin hi1)
  refine seqE ?_
  exact leafE hown hg
theorem id_laws_toTimerS (x : (List Timer)) : laws_toTimerS x = x := setS_ok (b := laws_toTimerS_b1) id_laws_toTimer (fun _ _ _ => rfl) (fun _ => rfl) x
def laws_toTimerSS_b1 (i1 : Nat) (s1 : (List (List Timer))) (a1 : (List Timer)) : Step ((List (List Timer))) (List (List Timer)) :=
  (.next (List.set s1 i1 (laws_toTimerS a1)))
def laws_toTimerSS (p0 : (List (List Timer))) : (List (List Timer)) :=
  (Fin.get (fun s1 => s1) (loopL laws_toTimerSS_b1 0 (List.replicate (p0).length ([] : List Timer)) p0))
theorem c_laws_toTimerSS (p0 : (List (List Timer))) (hs : bdS (bdS Timer.bd) 1048576 p0) : FnOk prog 125 [.one (.s false 1 (List.map (cSl false 3 Timer.cells) p0))] ⟨.one (.s true 1 (List.map (cSl true 3 Timer.cells) (laws_toTimerSS p0))), [], [], false⟩ := by
  refine FnOk.intro (E := env) envOk wide func125 rfl (by kernel_rfl) rfl rfl ?_
  have hs1 := hs.1
  have hg := laws_toTimerSS.eq_1 p0
  have hown : ∀ g : (List (List Timer)), AV.Own (AV.one (.s true 1 (List.map (cSl true 3 Timer.cells) g))) := fun g => ownSl (own_cSl own_Timer) _
  refine seqE ?_
  refine seqE ?_
  refine lenM fun hN1 => ?_
  refine And.intro (by exact ⟨rfl, by omega, by show ((24 : Nat) : Int) * _ ≤ _; omega, by omega⟩) (rowsE (Y := List.map (cSl true 3 Timer.cells) (List.replicate (p0).length ([] : List Timer))) (by rw [List.map_replicate]; rfl) ?_)
  refine litE (m := 0) rfl ?_
  refine seqE ?_
  refine seqE ?_
  refine loopLI (fun _ s => (s).length = (p0).length) hg (by simp) [0, 3] (fun x1 => [(4, .one (.v (.int .i64 ((x1.i : Nat) : Int))))]) (fun x1 => [.new ⟨1, false, List.map (cSl true 3 Timer.cells) x1.s, 0⟩]) [some 0] ?_ (fun x1 => ?_)
  · exact ⟨rfl, ⟨rfl, rfl, ⟨rfl, rfl, rfl, rfl, by (first | rfl | omega | (dsimp only; omega) | (simp; done) | (simp; omega) | (simp [LstSt.init, LstSt.step, LstInv.init, CntSt.init, CntSt.step, CntInv.init, WhlSt.init, WhlSt.step]; done) | (simp [LstSt.init, LstSt.step, LstInv.init, CntSt.init, CntSt.step, CntInv.init, WhlSt.init, WhlSt.step]; omega))⟩, trivial⟩, ⟨⟨rfl, rfl, rfl⟩, trivial⟩, trivial⟩
  have hI1 : (x1.s).length = (p0).length := by simpa using x1.hI
  refine seqE ?_
  refine seqE ?_
  refine lenM fun hN2 => ?_
  refine tstL (fun hi1 => ?_) (fun hi1 => ?_)
  · have hb1 := (x1.bdy hi1).trans (laws_toTimerSS_b1.eq_1 ..)
    have hw1 := wrap_succ hi1 (by first | assumption | omega)
    refine seqE ?_
    refine idxAt hi1 ?_
    refine .inl (⟨_, _, c_laws_toTimerS (p0[x1.i]'hi1) (by exact hs.get hi1), (FzAs.same _), ?_⟩)
    refine litE (m := 2) rfl ?_
    refine andE (by (first | omega | (simp (disch := omega) only [wrap_small, mid_eq, List.length_map]; omega) | (simp; done) | (simp; omega) | (simp at *; omega) | (simp at *; done) | (simp_all; done) | (simp_all; omega))) ?_
    refine rowsE (Y := List.map (cSl true 3 Timer.cells) (List.set x1.s x1.i (laws_toTimerS (p0[x1.i]'hi1)))) (by exact setMapE (by simp) (fun a ha => by first | rfl | (simp only [ha, Option.getD_some]; rfl) | (obtain ⟨_, rfl⟩ := List.getElem?_eq_some_iff.1 ha; rfl) | (simp only [Pol.cells_eq]; rfl) | (simp only [ha, Option.getD_some, Pol.cells_eq]; rfl))) ?_
    exact x1.goE hi1 hb1 (by simpa using x1.hI) [some 0] ⟨rfl, ⟨(eqInt hw1), rfl, ⟨rfl, rfl, rfl, rfl, by (first | rfl | omega | (dsimp only; omega) | (simp; done) | (simp; omega) | (simp [LstSt.init, LstSt.step, LstInv.init, CntSt.init, CntSt.step, CntInv.init, WhlSt.init, WhlSt.step]; done) | (simp [LstSt.init, LstSt.step, LstInv.init, CntSt.init, CntSt.step, CntInv.init, WhlSt.init, WhlSt.step]; omega))⟩, trivial⟩, ⟨⟨rfl, rfl, rfl⟩, trivial⟩, trivial⟩
  have hg := finE hg (x1.fin hi1)
  refine seqE ?_
  exact leafE hown hg
theorem id_laws_toTimerSS (x : (List (List Timer))) : laws_toTimerSS x = x := setS_ok (b := laws_toTimerSS_b1) id_laws_toTimerS (fun _ _ _ => rfl) (fun _ => rfl) x
def laws_toWheel (p0 : Wheel) : Wheel :=
  (Wheel.mk p0.Now (laws_toTimerSS p0.Near) (laws_toTimerSS p0.Far) (laws_toTimerS p0.Rest))
theorem c_laws_toWheel (p0 : Wheel) (hs : Wheel.bd 1048576 p0) : FnOk prog 74 [.agg ((Wheel.cells false) p0)] ⟨.agg ((Wheel.cells true) (laws_toWheel p0)), [], [], false⟩ := by
  refine FnOk.intro (E := env) envOk wide func74 rfl (by kernel_rfl) rfl rfl ?_
  unfold Wheel.bd at hs
  have hg := laws_toWheel.eq_1 p0
  have hown : ∀ g : Wheel, AV.Own (AV.agg ((Wheel.cells true) g)) := fun g => own_Wheel _
  refine seqE ?_
  refine litE (m := 0) rfl ?_
  refine litE (m := 1) rfl ?_
  refine seqE ?_
  refine litE (m := 2) rfl ?_
  refine seqE ?_
  refine seqE ?_
  refine .inl (⟨_, _, c_laws_toTimerSS p0.Near (by exact hs.1), (FzAs.same _), ?_⟩)
  refine litE (m := 4) rfl ?_
  refine seqE ?_
  refine .inl (⟨_, _, c_laws_toTimerSS p0.Far (by exact hs.2.1), (FzAs.same _), ?_⟩)
  refine litE (m := 6) rfl ?_
  refine seqE ?_
  refine .inl (⟨_, _, c_laws_toTimerS p0.Rest (by exact hs.2.2), (FzAs.same _), ?_⟩)
  refine litE (m := 8) rfl ?_
  refine seqE ?_
  exact leafE hown hg
theorem id_laws_toWheel (x : Wheel) : laws_toWheel x = x := by
  first | rfl | (simp only [laws_toWheel, id_laws_toTimerS, id_laws_toTimerSS]; done) | (simp only [laws_toWheel, id_laws_toTimerS, id_laws_toTimerSS]; rfl)
def laws_toItem (p0 : Item) : Item :=
  (Item.mk p0.Stamp (laws_toSpan p0.S))
theorem c_laws_toItem (p0 : Item) (hs : Item.bd 1048576 p0) : FnOk prog 127 [.agg ((Item.cells false) p0)] ⟨.agg ((Item.cells true) (laws_toItem p0)), [], [], false⟩ := by
  refine FnOk.intro (E := env) envOk wide func127 rfl (by kernel_rfl) rfl rfl ?_
  unfold Item.bd at hs
  have hg := laws_toItem.eq_1 p0
  have hown : ∀ g : Item, AV.Own (AV.agg ((Item.cells true) g)) := fun g => own_Item _
  refine seqE ?_
  refine litE (m := 0) rfl ?_
  refine litE (m := 1) rfl ?_
  refine seqE ?_
  refine litE (m := 2) rfl ?_
  refine seqE ?_
  refine seqE ?_
  refine .inl (⟨_, _, c_laws_toSpan p0.S (by exact hs), (FzAs.same _), ?_⟩)
  refine litE (m := 4) rfl ?_
  refine seqE ?_
  exact leafE hown hg
theorem id_laws_toItem (x : Item) : laws_toItem x = x := by
  first | rfl | (simp only [laws_toItem, id_laws_toSpan]; done) | (simp only [laws_toItem, id_laws_toSpan]; rfl)
def laws_toItemS_b1 (i1 : Nat) (s1 : (List Item)) (a1 : Item) : Step ((List Item)) (List Item) :=
  (.next (List.set s1 i1 (laws_toItem a1)))
def laws_toItemS (p0 : (List Item)) : (List Item) :=
  (Fin.get (fun s1 => s1) (loopL laws_toItemS_b1 0 (List.replicate (p0).length (default : Item)) p0))
theorem c_laws_toItemS (p0 : (List Item)) (hs : bdS Item.bd 1048576 p0) : FnOk prog 76 [.one (.s false 7 (List.map (Item.cells false) p0))] ⟨.one (.s true 7 (List.map (Item.cells true) (laws_toItemS p0))), [], [], false⟩ := by
  refine FnOk.intro (E := env) envOk wide func76 rfl (by kernel_rfl) rfl rfl ?_
  have hs1 := hs.1
  have hg := laws_toItemS.eq_1 p0
  have hown : ∀ g : (List Item), AV.Own (AV.one (.s true 7 (List.map (Item.cells true) g))) := fun g => ownSl own_Item _
  refine seqE ?_
  refine seqE ?_
  refine lenM fun hN1 => ?_
  refine And.intro (by exact ⟨rfl, by omega, by show ((72 : Nat) : Int) * _ ≤ _; omega, by omega⟩) (rowsE (Y := List.map (Item.cells true) (List.replicate (p0).length (default : Item))) (by rw [List.map_replicate]; rfl) ?_)
  refine litE (m := 0) rfl ?_
  refine seqE ?_
  refine seqE ?_
  refine loopLI (fun _ s => (s).length = (p0).length) hg (by simp) [0, 3] (fun x1 => [(4, .one (.v (.int .i64 ((x1.i : Nat) : Int))))]) (fun x1 => [.new ⟨7, false, List.map (Item.cells true) x1.s, 0⟩]) [some 0] ?_ (fun x1 => ?_)
  · exact ⟨rfl, ⟨rfl, rfl, ⟨rfl, rfl, rfl, rfl, by (first | rfl | omega | (dsimp only; omega) | (simp; done) | (simp; omega) | (simp [LstSt.init, LstSt.step, LstInv.init, CntSt.init, CntSt.step, CntInv.init, WhlSt.init, WhlSt.step]; done) | (simp [LstSt.init, LstSt.step, LstInv.init, CntSt.init, CntSt.step, CntInv.init, WhlSt.init, WhlSt.step]; omega))⟩, trivial⟩, ⟨⟨rfl, rfl, rfl⟩, trivial⟩, trivial⟩
  have hI1 : (x1.s).length = (p0).length := by simpa using x1.hI
  refine seqE ?_
  refine seqE ?_
  refine lenM fun hN2 => ?_
  refine tstL (fun hi1 => ?_) (fun hi1 => ?_)
  · have hb1 := (x1.bdy hi1).trans (laws_toItemS_b1.eq_1 ..)
    have hw1 := wrap_succ hi1 (by first | assumption | omega)
    refine seqE ?_
    refine idxAt hi1 ?_
    refine .inl (⟨_, _, c_laws_toItem (p0[x1.i]'hi1) (by exact hs.get hi1), (FzAs.same _), ?_⟩)
    refine litE (m := 2) rfl ?_
    refine andE (by (first | omega | (simp (disch := omega) only [wrap_small, mid_eq, List.length_map]; omega) | (simp; done) | (simp; omega) | (simp at *; omega) | (simp at *; done) | (simp_all; done) | (simp_all; omega))) ?_
    refine rowsE (Y := List.map (Item.cells true) (List.set x1.s x1.i (laws_toItem (p0[x1.i]'hi1)))) (by exact setMapE (by simp) (fun a ha => by first | rfl | (simp only [ha, Option.getD_some]; rfl) | (obtain ⟨_, rfl⟩ := List.getElem?_eq_some_iff.1 ha; rfl) | (simp only [Pol.cells_eq]; rfl) | (simp only [ha, Option.getD_some, Pol.cells_eq]; rfl))) ?_
    exact x1.goE hi1 hb1 (by simpa using x1.hI) [some 0] ⟨rfl, ⟨(eqInt hw1), rfl, ⟨rfl, rfl, rfl, rfl, by (first | rfl | omega | (dsimp only; omega) | (simp; done) | (simp; omega) | (simp [LstSt.init, LstSt.step, LstInv.init, CntSt.init, CntSt.step, CntInv.init, WhlSt.init, WhlSt.step]; done) | (simp [LstSt.init, LstSt.step, LstInv.init, CntSt.init, CntSt.step, CntInv.init, WhlSt.init, WhlSt.step]; omega))⟩, trivial⟩, ⟨⟨rfl, rfl, rfl⟩, trivial⟩, trivial⟩
  have hg := finE hg (x1.fin hi1)
  refine seqE ?_
  exact leafE hown hg
theorem id_laws_toItemS (x : (List Item)) : laws_toItemS x = x := setS_ok (b := laws_toItemS_b1) id_laws_toItem (fun _ _ _ => rfl) (fun _ => rfl) x
def laws_toTask (p0 : Task) : Task :=
  (Task.mk p0.Op p0.Pc (laws_toSpan p0.S) p0.Trace p0.Stamp (laws_toItemS p0.Hand) p0.H)
theorem c_laws_toTask (p0 : Task) (hs : Task.bd 1048576 p0) : FnOk prog 128 [.agg ((Task.cells false) p0)] ⟨.agg ((Task.cells true) (laws_toTask p0)), [], [], false⟩ := by
  refine FnOk.intro (E := env) envOk wide func128 rfl (by kernel_rfl) rfl rfl ?_
  unfold Task.bd at hs
  have hg := laws_toTask.eq_1 p0
  have hown : ∀ g : Task, AV.Own (AV.agg ((Task.cells true) g)) := fun g => own_Task _
  refine seqE ?_
  refine litE (m := 0) rfl ?_
  refine litE (m := 1) rfl ?_
  refine seqE ?_
  refine litE (m := 2) rfl ?_
  refine seqE ?_
  refine seqE ?_
  refine seqE ?_
  refine .inl (⟨_, _, c_laws_toSpan p0.S (by exact hs.1), (FzAs.same _), ?_⟩)
  refine litE (m := 4) rfl ?_
  refine seqE ?_
  refine seqE ?_
  refine seqE ?_
  refine .inl (⟨_, _, c_laws_toItemS p0.Hand (by exact hs.2), (FzAs.same _), ?_⟩)
  refine litE (m := 6) rfl ?_
  refine seqE ?_
  refine seqE ?_
  exact leafE hown hg
theorem id_laws_toTask (x : Task) : laws_toTask x = x := by
  first | rfl | (simp only [laws_toTask, id_laws_toSpan, id_laws_toItemS]; done) | (simp only [laws_toTask, id_laws_toSpan, id_laws_toItemS]; rfl)
def laws_toTaskS_b1 (i1 : Nat) (s1 : (List Task)) (a1 : Task) : Step ((List Task)) (List Task) :=
  (.next (List.set s1 i1 (laws_toTask a1)))
def laws_toTaskS (p0 : (List Task)) : (List Task) :=
  (Fin.get (fun s1 => s1) (loopL laws_toTaskS_b1 0 (List.replicate (p0).length (default : Task)) p0))
theorem c_laws_toTaskS (p0 : (List Task)) (hs : bdS Task.bd 1048576 p0) : FnOk prog 77 [.one (.s false 12 (List.map (Task.cells false) p0))] ⟨.one (.s true 12 (List.map (Task.cells true) (laws_toTaskS p0))), [], [], false⟩ := by
  refine FnOk.intro (E := env) envOk wide func77 rfl (by kernel_rfl) rfl rfl ?_
  have hs1 := hs.1
  have hg := laws_toTaskS.eq_1 p0
  have hown : ∀ g : (List Task), AV.Own (AV.one (.s true 12 (List.map (Task.cells true) g))) := fun g => ownSl own_Task _
  refine seqE ?_
  refine seqE ?_
  refine lenM fun hN1 => ?_
  refine And.intro (by exact ⟨rfl, by omega, by show ((128 : Nat) : Int) * _ ≤ _; omega, by omega⟩) (rowsE (Y := List.map (Task.cells true) (List.replicate (p0).length (default : Task))) (by rw [List.map_replicate]; rfl) ?_)
  refine litE (m := 0) rfl ?_
  refine seqE ?_
  refine seqE ?_
  refine loopLI (fun _ s => (s).length = (p0).length) hg (by simp) [0, 3] (fun x1 => [(4, .one (.v (.int .i64 ((x1.i : Nat) : Int))))]) (fun x1 => [.new ⟨12, false, List.map (Task.cells true) x1.s, 0⟩]) [some 0] ?_ (fun x1 => ?_)
  · exact ⟨rfl, ⟨rfl, rfl, ⟨rfl, rfl, rfl, rfl, by (first | rfl | omega | (dsimp only; omega) | (simp; done) | (simp; omega) | (simp [LstSt.init, LstSt.step, LstInv.init, CntSt.init, CntSt.step, CntInv.init, WhlSt.init, WhlSt.step]; done) | (simp [LstSt.init, LstSt.step, LstInv.init, CntSt.init, CntSt.step, CntInv.init, WhlSt.init, WhlSt.step]; omega))⟩, trivial⟩, ⟨⟨rfl, rfl, rfl⟩, trivial⟩, trivial⟩
  have hI1 : (x1.s).length = (p0).length := by simpa using x1.hI
  refine seqE ?_
  refine seqE ?_
  refine lenM fun hN2 => ?_
  refine tstL (fun hi1 => ?_) (fun hi1 => ?_)
  · have hb1 := (x1.bdy hi1).trans (laws_toTaskS_b1.eq_1 ..)
    have hw1 := wrap_succ hi1 (by first | assumption | omega)
    refine seqE ?_
    refine idxAt hi1 ?_
    refine .inl (⟨_, _, c_laws_toTask (p0[x1.i]'hi1) (by exact hs.get hi1), (FzAs.same _), ?_⟩)
    refine litE (m := 2) rfl ?_
    refine andE (by (first | omega | (simp (disch := omega) only [wrap_small, mid_eq, List.length_map]; omega) | (simp; done) | (simp; omega) | (simp at *; omega) | (simp at *; done) | (simp_all; done) | (simp_all; omega))) ?_
    refine rowsE (Y := List.map (Task.cells true) (List.set x1.s x1.i (laws_toTask (p0[x1.i]'hi1)))) (by exact setMapE (by simp) (fun a ha => by first | rfl | (simp only [ha, Option.getD_some]; rfl) | (obtain ⟨_, rfl⟩ := List.getElem?_eq_some_iff.1 ha; rfl) | (simp only [Pol.cells_eq]; rfl) | (simp only [ha, Option.getD_some, Pol.cells_eq]; rfl))) ?_
    exact x1.goE hi1 hb1 (by simpa using x1.hI) [some 0] ⟨rfl, ⟨(eqInt hw1), rfl, ⟨rfl, rfl, rfl, rfl, by (first | rfl | omega | (dsimp only; omega) | (simp; done) | (simp; omega) | (simp [LstSt.init, LstSt.step, LstInv.init, CntSt.init, CntSt.step, CntInv.init, WhlSt.init, WhlSt.step]; done) | (simp [LstSt.init, LstSt.step, LstInv.init, CntSt.init, CntSt.step, CntInv.init, WhlSt.init, WhlSt.step]; omega))⟩, trivial⟩, ⟨⟨rfl, rfl, rfl⟩, trivial⟩, trivial⟩
  have hg := finE hg (x1.fin hi1)
  refine seqE ?_
  exact leafE hown hg
theorem id_laws_toTaskS (x : (List Task)) : laws_toTaskS x = x := setS_ok (b := laws_toTaskS_b1) id_laws_toTask (fun _ _ _ => rfl) (fun _ => rfl) x
def laws_toDeed (p0 : Deed) : Deed :=
  (Deed.mk p0.Op p0.Task (laws_toSpan p0.S) p0.Trace p0.Stamp p0.Code p0.Keep p0.Void p0.Took p0.N p0.Forgot p0.Now p0.Inv p0.Lin p0.Res)
theorem c_laws_toDeed (p0 : Deed) (hs : Deed.bd 1048576 p0) : FnOk prog 40 [.agg ((Deed.cells false) p0)] ⟨.agg ((Deed.cells true) (laws_toDeed p0)), [], [], false⟩ := by
  refine FnOk.intro (E := env) envOk wide func40 rfl (by kernel_rfl) rfl rfl ?_
  unfold Deed.bd at hs
  have hg := laws_toDeed.eq_1 p0
  have hown : ∀ g : Deed, AV.Own (AV.agg ((Deed.cells true) g)) := fun g => own_Deed _
  refine seqE ?_
  refine litE (m := 0) rfl ?_
  refine litE (m := 1) rfl ?_
  refine seqE ?_
  refine litE (m := 2) rfl ?_
  refine seqE ?_
  refine seqE ?_
  refine seqE ?_
  refine .inl (⟨_, _, c_laws_toSpan p0.S (by exact hs), (FzAs.same _), ?_⟩)
  refine litE (m := 4) rfl ?_
  refine seqE ?_
  refine seqE ?_
  refine seqE ?_
  refine seqE ?_
  refine seqE ?_
  refine seqE ?_
  refine seqE ?_
  refine seqE ?_
  refine seqE ?_
  refine seqE ?_
  refine seqE ?_
  refine seqE ?_
  refine seqE ?_
  exact leafE hown hg
theorem id_laws_toDeed (x : Deed) : laws_toDeed x = x := by
  first | rfl | (simp only [laws_toDeed, id_laws_toSpan]; done) | (simp only [laws_toDeed, id_laws_toSpan]; rfl)
def laws_toDeedS_b1 (i1 : Nat) (s1 : (List Deed)) (a1 : Deed) : Step ((List Deed)) (List Deed) :=
  (.next (List.set s1 i1 (laws_toDeed a1)))
def laws_toDeedS (p0 : (List Deed)) : (List Deed) :=
  (Fin.get (fun s1 => s1) (loopL laws_toDeedS_b1 0 (List.replicate (p0).length (default : Deed)) p0))
theorem c_laws_toDeedS (p0 : (List Deed)) (hs : bdS Deed.bd 1048576 p0) : FnOk prog 9 [.one (.s false 20 (List.map (Deed.cells false) p0))] ⟨.one (.s true 20 (List.map (Deed.cells true) (laws_toDeedS p0))), [], [], false⟩ := by
  refine FnOk.intro (E := env) envOk wide func9 rfl (by kernel_rfl) rfl rfl ?_
  have hs1 := hs.1
  have hg := laws_toDeedS.eq_1 p0
  have hown : ∀ g : (List Deed), AV.Own (AV.one (.s true 20 (List.map (Deed.cells true) g))) := fun g => ownSl own_Deed _
  refine seqE ?_
  refine seqE ?_
  refine lenM fun hN1 => ?_
  refine And.intro (by exact ⟨rfl, by omega, by show ((168 : Nat) : Int) * _ ≤ _; omega, by omega⟩) (rowsE (Y := List.map (Deed.cells true) (List.replicate (p0).length (default : Deed))) (by rw [List.map_replicate]; rfl) ?_)
  refine litE (m := 0) rfl ?_
  refine seqE ?_
  refine seqE ?_
  refine loopLI (fun _ s => (s).length = (p0).length) hg (by simp) [0, 3] (fun x1 => [(4, .one (.v (.int .i64 ((x1.i : Nat) : Int))))]) (fun x1 => [.new ⟨20, false, List.map (Deed.cells true) x1.s, 0⟩]) [some 0] ?_ (fun x1 => ?_)
  · exact ⟨rfl, ⟨rfl, rfl, ⟨rfl, rfl, rfl, rfl, by (first | rfl | omega | (dsimp only; omega) | (simp; done) | (simp; omega) | (simp [LstSt.init, LstSt.step, LstInv.init, CntSt.init, CntSt.step, CntInv.init, WhlSt.init, WhlSt.step]; done) | (simp [LstSt.init, LstSt.step, LstInv.init, CntSt.init, CntSt.step, CntInv.init, WhlSt.init, WhlSt.step]; omega))⟩, trivial⟩, ⟨⟨rfl, rfl, rfl⟩, trivial⟩, trivial⟩
  have hI1 : (x1.s).length = (p0).length := by simpa using x1.hI
  refine seqE ?_
  refine seqE ?_
  refine lenM fun hN2 => ?_
  refine tstL (fun hi1 => ?_) (fun hi1 => ?_)
  · have hb1 := (x1.bdy hi1).trans (laws_toDeedS_b1.eq_1 ..)
    have hw1 := wrap_succ hi1 (by first | assumption | omega)
    refine seqE ?_
    refine idxAt hi1 ?_
    refine .inl (⟨_, _, c_laws_toDeed (p0[x1.i]'hi1) (by exact hs.get hi1), (FzAs.same _), ?_⟩)
    refine litE (m := 2) rfl ?_
    refine andE (by (first | omega | (simp (disch := omega) only [wrap_small, mid_eq, List.length_map]; omega) | (simp; done) | (simp; omega) | (simp at *; omega) | (simp at *; done) | (simp_all; done) | (simp_all; omega))) ?_
    refine rowsE (Y := List.map (Deed.cells true) (List.set x1.s x1.i (laws_toDeed (p0[x1.i]'hi1)))) (by exact setMapE (by simp) (fun a ha => by first | rfl | (simp only [ha, Option.getD_some]; rfl) | (obtain ⟨_, rfl⟩ := List.getElem?_eq_some_iff.1 ha; rfl) | (simp only [Pol.cells_eq]; rfl) | (simp only [ha, Option.getD_some, Pol.cells_eq]; rfl))) ?_
    exact x1.goE hi1 hb1 (by simpa using x1.hI) [some 0] ⟨rfl, ⟨(eqInt hw1), rfl, ⟨rfl, rfl, rfl, rfl, by (first | rfl | omega | (dsimp only; omega) | (simp; done) | (simp; omega) | (simp [LstSt.init, LstSt.step, LstInv.init, CntSt.init, CntSt.step, CntInv.init, WhlSt.init, WhlSt.step]; done) | (simp [LstSt.init, LstSt.step, LstInv.init, CntSt.init, CntSt.step, CntInv.init, WhlSt.init, WhlSt.step]; omega))⟩, trivial⟩, ⟨⟨rfl, rfl, rfl⟩, trivial⟩, trivial⟩
  have hg := finE hg (x1.fin hi1)
  refine seqE ?_
  exact leafE hown hg
theorem id_laws_toDeedS (x : (List Deed)) : laws_toDeedS x = x := setS_ok (b := laws_toDeedS_b1) id_laws_toDeed (fun _ _ _ => rfl) (fun _ => rfl) x
def laws_toWorld (p0 : World) : World :=
  (World.mk (laws_toConf p0.C) p0.Time p0.Shut (laws_toStripeS p0.St) p0.RuleHeld (laws_toBucket p0.B) (laws_toVerdictS p0.Cache) p0.Used (laws_toWheel p0.W) (laws_toTimerS p0.Due) (laws_toItemS p0.Queue) (laws_toItemS p0.Out) (laws_toTaskS p0.Tasks) (laws_toDeedS p0.Deeds) p0.Next)
theorem c_laws_toWorld (p0 : World) (hs : World.bd 1048576 p0) : FnOk prog 27 [.agg ((World.cells false) p0)] ⟨.agg ((World.cells true) (laws_toWorld p0)), [], [], false⟩ := by
  refine FnOk.intro (E := env) envOk wide func27 rfl (by kernel_rfl) rfl rfl ?_
  unfold World.bd at hs
  have hg := laws_toWorld.eq_1 p0
  have hown : ∀ g : World, AV.Own (AV.agg ((World.cells true) g)) := fun g => own_World _
  refine seqE ?_
  refine litE (m := 0) rfl ?_
  refine litE (m := 1) rfl ?_
  refine seqE ?_
  refine litE (m := 2) rfl ?_
  refine seqE ?_
  refine .inl (⟨_, _, c_laws_toConf p0.C (by exact hs.1), (FzAs.same _), ?_⟩)
  refine litE (m := 4) rfl ?_
  refine seqE ?_
  refine seqE ?_
  refine seqE ?_
  refine .inl (⟨_, _, c_laws_toStripeS p0.St (by exact hs.2.1), (FzAs.same _), ?_⟩)
  refine litE (m := 6) rfl ?_
  refine seqE ?_
  refine seqE ?_
  refine .inl (⟨_, _, c_laws_toBucket p0.B, (FzAs.same _), ?_⟩)
  refine litE (m := 8) rfl ?_
  refine seqE ?_
  refine .inl (⟨_, _, c_laws_toVerdictS p0.Cache (by exact hs.2.2.1), (FzAs.same _), ?_⟩)
  refine litE (m := 9) rfl ?_
  refine seqE ?_
  refine seqE ?_
  refine .inl (⟨_, _, c_laws_toWheel p0.W (by exact hs.2.2.2.1), (FzAs.same _), ?_⟩)
  refine litE (m := 11) rfl ?_
  refine seqE ?_
  refine .inl (⟨_, _, c_laws_toTimerS p0.Due (by exact hs.2.2.2.2.1), (FzAs.same _), ?_⟩)
  refine litE (m := 15) rfl ?_
  refine seqE ?_
  refine .inl (⟨_, _, c_laws_toItemS p0.Queue (by exact hs.2.2.2.2.2.1), (FzAs.same _), ?_⟩)
  refine litE (m := 17) rfl ?_
  refine seqE ?_
  refine .inl (⟨_, _, c_laws_toItemS p0.Out (by exact hs.2.2.2.2.2.2.1), (FzAs.same _), ?_⟩)
  refine litE (m := 19) rfl ?_
  refine seqE ?_
  refine .inl (⟨_, _, c_laws_toTaskS p0.Tasks (by exact hs.2.2.2.2.2.2.2.1), (FzAs.same _), ?_⟩)
  refine litE (m := 21) rfl ?_
  refine seqE ?_
  refine .inl (⟨_, _, c_laws_toDeedS p0.Deeds (by exact hs.2.2.2.2.2.2.2.2), (FzAs.same _), ?_⟩)
  refine litE (m := 23) rfl ?_
  refine seqE ?_
  refine seqE ?_
  exact leafE hown hg
theorem id_laws_toWorld (x : World) : laws_toWorld x = x := by
  first | rfl | (simp only [laws_toWorld, id_laws_toConf, id_laws_toStripeS, id_laws_toBucket, id_laws_toVerdictS, id_laws_toTimerS, id_laws_toWheel, id_laws_toItemS, id_laws_toTaskS, id_laws_toDeedS]; done) | (simp only [laws_toWorld, id_laws_toConf, id_laws_toStripeS, id_laws_toBucket, id_laws_toVerdictS, id_laws_toTimerS, id_laws_toWheel, id_laws_toItemS, id_laws_toTaskS, id_laws_toDeedS]; rfl)
def spec_l3Copy (p0 : Span) : Span :=
  p0
theorem c_spec_l3Copy (p0 : Span) (hs : p0.Attrs.length ≤ 1048576) : FnOk prog 122 [.agg ((Span.cells false) p0)] ⟨.agg ((Span.cells true) (spec_l3Copy p0)), [], [], false⟩ := by
  refine FnOk.intro (E := env) envOk wide func122 rfl (by kernel_rfl) rfl rfl ?_
  have hg := spec_l3Copy.eq_1 p0
  have hown : ∀ g : Span, AV.Own (AV.agg ((Span.cells true) g)) := fun g => own_Span _
  refine seqE ?_
  refine litE (m := 0) rfl ?_
  refine litE (m := 1) rfl ?_
  refine seqE ?_
  refine litE (m := 2) rfl ?_
  refine .inl ?_
  refine rowsE (Y := List.map Attr.cells p0.Attrs) (by first | rfl | (simp [subR0, subR1, -List.map_take, -List.map_drop, take_map', drop_map', fz_Attr, fl_Attr, fzMap fz_Attr, flMap fl_Attr]; done) | (simp [subR0, subR1, -List.map_take, -List.map_drop, take_map', drop_map', fz_Attr, fl_Attr, fzMap fz_Attr, flMap fl_Attr]; rfl)) ?_
  refine appB (b := 48) (hs := by have hl := hs; refine ⟨?_, ?_⟩; (show List.length _ * 48 ≤ _); (try simp only [List.length_map, List.length_append, List.length_cons, List.length_nil]); omega; (try simp only [List.length_map, List.length_append, List.length_cons, List.length_nil]); omega) ?_
  refine litE (m := 3) rfl ?_
  refine seqE ?_
  exact leafE hown hg
def spec_ItemsOf_b1 (p1 : Int) (i1 : Nat) (s1 : (List Span)) (a1 : Item) : Step ((List Span)) (List Span) :=
  (bif (a1.Stamp == p1) then (.next (s1 ++ [(spec_l3Copy a1.S)])) else (.next s1))
def spec_ItemsOf (p0 : (List Item)) (p1 : Int) : (List Span) :=
  (Fin.get (fun s1 => s1) (loopL (spec_ItemsOf_b1 p1) 0 ([] : List Span) p0))
theorem c_spec_ItemsOf (p0 : (List Item)) (p1 : Int) (hs : bdS Item.bd 1048576 p0) : FnOk prog 70 [.one (.s false 7 (List.map (Item.cells false) p0)), .one (.v (.int .i64 p1))] ⟨.one (.s true 6 (List.map (Span.cells true) (spec_ItemsOf p0 p1))), [], [], false⟩ := by
  refine FnOk.intro (E := env) envOk wide func70 rfl (by kernel_rfl) rfl rfl ?_
  have hg := spec_ItemsOf.eq_1 p0 p1
  have hown : ∀ g : (List Span), AV.Own (AV.one (.s true 6 (List.map (Span.cells true) g))) := fun g => ownSl own_Span _
  refine seqE ?_
  refine seqE ?_
  refine litE (m := 0) rfl ?_
  refine seqE ?_
  refine seqE ?_
  refine loopLI (fun (i : Nat) s => s.length ≤ i) hg (Nat.le_refl _) [0, 1] (fun x1 => [(5, .one (.n 0 [] 1 0 (x1.s).length)), (6, .one (.v (.int .i64 ((x1.i : Nat) : Int))))]) (fun x1 => [.new ⟨6, false, List.map (Span.cells true) x1.s, 0⟩]) [some 0] ?_ (fun x1 => ?_)
  · exact ⟨rfl, ⟨⟨rfl, rfl, rfl, rfl, by (first | rfl | omega | (dsimp only; omega) | (simp; done) | (simp; omega) | (simp [LstSt.init, LstSt.step, LstInv.init, CntSt.init, CntSt.step, CntInv.init, WhlSt.init, WhlSt.step]; done) | (simp [LstSt.init, LstSt.step, LstInv.init, CntSt.init, CntSt.step, CntInv.init, WhlSt.init, WhlSt.step]; omega))⟩, rfl, rfl, rfl, trivial⟩, ⟨⟨rfl, rfl, rfl⟩, trivial⟩, trivial⟩
  have hI1 := x1.hI
  try dsimp only at hI1
  refine seqE ?_
  refine seqE ?_
  refine lenM fun hN1 => ?_
  refine tstL (fun hi1 => ?_) (fun hi1 => ?_)
  · have hb1 := (x1.bdy hi1).trans (spec_ItemsOf_b1.eq_1 ..)
    have hw1 := wrap_succ hi1 (by first | assumption | omega)
    refine seqE ?_
    refine seqE ?_
    refine idxAt hi1 ?_
    refine brQ hb1 (fun hb1 h2 => ?_) (fun hb1 h2 => x1.goE hi1 hb1 (by first | (have q1 := hI1; simp only [List.length_append, List.length_cons, List.length_nil]; omega) | exact Nat.le_succ_of_le hI1) [some 0] ⟨rfl, ⟨⟨rfl, rfl, rfl, rfl, by (first | rfl | omega | (dsimp only; omega) | (simp; done) | (simp; omega) | (simp [LstSt.init, LstSt.step, LstInv.init, CntSt.init, CntSt.step, CntInv.init, WhlSt.init, WhlSt.step]; done) | (simp [LstSt.init, LstSt.step, LstInv.init, CntSt.init, CntSt.step, CntInv.init, WhlSt.init, WhlSt.step]; omega))⟩, (eqInt hw1), rfl, rfl, trivial⟩, ⟨⟨rfl, rfl, rfl⟩, trivial⟩, trivial⟩)
    refine idxAt hi1 ?_
    refine .inl (⟨_, _, c_spec_l3Copy (p0[x1.i]'hi1).S (by exact (hs.2 _ (List.getElem_mem hi1)).1), (FzAs.same _), ?_⟩)
    refine litE (m := 2) rfl ?_
    refine litE (m := 3) rfl ?_
    refine .inl ?_
    refine rowsE (Y := List.map (Span.cells true) (x1.s ++ [(spec_l3Copy (p0[x1.i]'hi1).S)])) (by first | rfl | (simp [subR0, subR1, -List.map_take, -List.map_drop, take_map', drop_map', fz_Span, fzMap fz_Span, shMap sh_Span]; done) | (simp [subR0, subR1, -List.map_take, -List.map_drop, take_map', drop_map', fz_Span, fzMap fz_Span, shMap sh_Span]; rfl)) ?_
    refine appB (b := 64) (hs := by have q0 := hs.1; have q1 := hI1; have q2 := hi1; refine ⟨?_, ?_⟩; (show List.length _ * 64 ≤ _); (try simp only [List.length_map, List.length_append, List.length_cons, List.length_nil]); omega; (try simp only [List.length_map, List.length_append, List.length_cons, List.length_nil]); omega) ?_
    refine litE (m := 4) rfl ?_
    exact x1.goE hi1 hb1 (by first | (have q1 := hI1; simp only [List.length_append, List.length_cons, List.length_nil]; omega) | exact Nat.le_succ_of_le hI1) [some 4] ⟨rfl, ⟨⟨rfl, rfl, rfl, rfl, by (first | rfl | omega | (dsimp only; omega) | (simp; done) | (simp; omega) | (simp [LstSt.init, LstSt.step, LstInv.init, CntSt.init, CntSt.step, CntInv.init, WhlSt.init, WhlSt.step]; done) | (simp [LstSt.init, LstSt.step, LstInv.init, CntSt.init, CntSt.step, CntInv.init, WhlSt.init, WhlSt.step]; omega))⟩, (eqInt hw1), rfl, rfl, trivial⟩, ⟨⟨rfl, rfl, rfl⟩, trivial⟩, trivial⟩
  have hg := finE hg (x1.fin hi1)
  refine seqE ?_
  exact leafE hown hg
theorem spec_ItemsOf_len (l : List Item) (k : Int) : (spec_ItemsOf l k).length ≤ l.length := by
  have : spec_ItemsOf l k = l.flatMap (fun a => bif a.Stamp == k then [spec_l3Copy a.S] else []) := by
    unfold spec_ItemsOf
    rw [app_flat (b := spec_ItemsOf_b1 k) (fun a => bif a.Stamp == k then [spec_l3Copy a.S] else []) (fun i s a => by unfold spec_ItemsOf_b1; cases (a.Stamp == k) <;> simp), List.nil_append]
    rfl
  rw [this]
  exact flat1_len (fun a => by cases (a.Stamp == k) <;> simp) l
def spec_Sent_b1 (p1 : Int) (i1 : Nat) (s1 : (List Span)) (a1 : Task) : Step ((List Span)) (List Span) :=
  (.next (s1 ++ (spec_ItemsOf a1.Hand p1)))
def spec_Sent (p0 : World) (p1 : Int) : (List Span) :=
  (Fin.get (fun s1 => s1) (loopL (spec_Sent_b1 p1) 0 ((spec_ItemsOf p0.Out p1) ++ (spec_ItemsOf p0.Queue p1)) p0.Tasks))
theorem c_spec_Sent (p0 : World) (p1 : Int) (hs : World.bd 1048576 p0) : FnOk prog 26 [.agg ((World.cells false) p0), .one (.v (.int .i64 p1))] ⟨.one (.s true 6 (List.map (Span.cells true) (spec_Sent p0 p1))), [], [], false⟩ := by
  refine FnOk.intro (E := env) envOk wide func26 rfl (by kernel_rfl) rfl rfl ?_
  have hg := spec_Sent.eq_1 p0 p1
  have hown : ∀ g : (List Span), AV.Own (AV.one (.s true 6 (List.map (Span.cells true) g))) := fun g => ownSl own_Span _
  refine seqE ?_
  refine litE (m := 0) rfl ?_
  refine seqE ?_
  refine .inr (.inl ⟨8, [(0, true), (1, true), (2, true), (4, true), (5, true), (6, true), (3, false), (7, false)], by kernel_rfl, ?_⟩)
  refine ⟨_, _, c_spec_ItemsOf p0.Out p1 (by first | exact hs.2.2.2.2.2.2.1 | exact hs.2.2.2.2.2.1 | exact (hs.2.2.2.2.2.2.2.1.2 _ (List.getElem_mem hi1)).2), (FzAs.same _), ?_⟩
  refine litE (m := 2) rfl ?_
  refine ⟨_, _, c_spec_ItemsOf p0.Queue p1 (by first | exact hs.2.2.2.2.2.2.1 | exact hs.2.2.2.2.2.1 | exact (hs.2.2.2.2.2.2.2.1.2 _ (List.getElem_mem hi1)).2), (FzAs.same _), ?_⟩
  refine litE (m := 4) rfl ?_
  refine .inl ?_
  refine rowsE (Y := List.map (Span.cells true) ((spec_ItemsOf p0.Out p1) ++ (spec_ItemsOf p0.Queue p1))) (by first | rfl | (simp [subR0, subR1, -List.map_take, -List.map_drop, take_map', drop_map', fz_Span, fzMap fz_Span, shMap sh_Span]; done) | (simp [subR0, subR1, -List.map_take, -List.map_drop, take_map', drop_map', fz_Span, fzMap fz_Span, shMap sh_Span]; rfl)) ?_
  refine appB (b := 64) (hs := by first | (have a1 := spec_ItemsOf_len p0.Out p1; have a2 := spec_ItemsOf_len p0.Queue p1; have a3 : p0.Out.length ≤ 1048576 := hs.2.2.2.2.2.2.1.1; have a4 : p0.Queue.length ≤ 1048576 := hs.2.2.2.2.2.1.1; have a5 : p0.Tasks.length ≤ 1048576 := hs.2.2.2.2.2.2.2.1.1; have a6 := spec_ItemsOf_len (p0.Tasks[x1.i]'hi1).Hand p1; have a7 : (p0.Tasks[x1.i]'hi1).Hand.length ≤ 1048576 := (hs.2.2.2.2.2.2.2.1.2 _ (List.getElem_mem hi1)).2.1; have q1 := hI1; have q2 := hi1; refine ⟨?_, ?_⟩; (show List.length _ * 64 ≤ _); (try simp only [List.length_map, List.length_append, List.length_cons, List.length_nil]); omega; (try simp only [List.length_map, List.length_append, List.length_cons, List.length_nil]); omega) | (have a1 := spec_ItemsOf_len p0.Out p1; have a2 := spec_ItemsOf_len p0.Queue p1; have a3 : p0.Out.length ≤ 1048576 := hs.2.2.2.2.2.2.1.1; have a4 : p0.Queue.length ≤ 1048576 := hs.2.2.2.2.2.1.1; have a5 : p0.Tasks.length ≤ 1048576 := hs.2.2.2.2.2.2.2.1.1; refine ⟨?_, ?_⟩; (show List.length _ * 64 ≤ _); (try simp only [List.length_map, List.length_append, List.length_cons, List.length_nil]); omega; (try simp only [List.length_map, List.length_append, List.length_cons, List.length_nil]); omega)) ?_
  refine litE (m := 5) rfl ?_
  refine seqE ?_
  refine seqE ?_
  refine loopLI (fun (i : Nat) s => s.length ≤ 2097152 + 1048576 * i) hg (by have a1 := spec_ItemsOf_len p0.Out p1; have a2 := spec_ItemsOf_len p0.Queue p1; have a3 : p0.Out.length ≤ 1048576 := hs.2.2.2.2.2.2.1.1; have a4 : p0.Queue.length ≤ 1048576 := hs.2.2.2.2.2.1.1; have a5 : p0.Tasks.length ≤ 1048576 := hs.2.2.2.2.2.2.2.1.1; simp only [List.length_append]; omega) [1, 2] (fun x1 => [(5, .one (.n 5 [] 1 0 (x1.s).length)), (6, .one (.v (.int .i64 ((x1.i : Nat) : Int))))]) (fun x1 => [.keep 0, .dead, .dead, .dead, .dead, .new ⟨6, false, List.map (Span.cells true) x1.s, 0⟩]) [some 0, none, none, none, none, some 5] ?_ (fun x1 => ?_)
  · exact ⟨rfl, ⟨⟨rfl, rfl, rfl, rfl, by (first | rfl | omega | (dsimp only; omega) | (simp; done) | (simp; omega) | (simp [LstSt.init, LstSt.step, LstInv.init, CntSt.init, CntSt.step, CntInv.init, WhlSt.init, WhlSt.step]; done) | (simp [LstSt.init, LstSt.step, LstInv.init, CntSt.init, CntSt.step, CntInv.init, WhlSt.init, WhlSt.step]; omega))⟩, rfl, rfl, ⟨rfl, rfl, rfl, rfl⟩, trivial⟩, ⟨⟨rfl, rfl, ⟨rfl, rfl, rfl, rfl, rfl, rfl, rfl, rfl, rfl, rfl, rfl, rfl, rfl, rfl, rfl, rfl, rfl, rfl, rfl, rfl, rfl, rfl, rfl, rfl, rfl, rfl, rfl, rfl, rfl, rfl, rfl, rfl, trivial⟩⟩, ⟨rfl, rfl, rfl⟩, trivial⟩, trivial⟩
  have hI1 := x1.hI
  try dsimp only at hI1
  refine seqE ?_
  refine seqE ?_
  refine lenM fun hN1 => ?_
  refine tstL (fun hi1 => ?_) (fun hi1 => ?_)
  · have hb1 := (x1.bdy hi1).trans (spec_Sent_b1.eq_1 ..)
    have hw1 := wrap_succ hi1 (by first | assumption | omega)
    refine seqE ?_
    refine idxAt hi1 ?_
    refine .inl (⟨_, _, c_spec_ItemsOf (p0.Tasks[x1.i]'hi1).Hand p1 (by first | exact hs.2.2.2.2.2.2.1 | exact hs.2.2.2.2.2.1 | exact (hs.2.2.2.2.2.2.2.1.2 _ (List.getElem_mem hi1)).2), (FzAs.same _), ?_⟩)
    refine litE (m := 7) rfl ?_
    refine .inl ?_
    refine rowsE (Y := List.map (Span.cells true) (x1.s ++ (spec_ItemsOf (p0.Tasks[x1.i]'hi1).Hand p1))) (by first | rfl | (simp [subR0, subR1, -List.map_take, -List.map_drop, take_map', drop_map', fz_Span, fzMap fz_Span, shMap sh_Span]; done) | (simp [subR0, subR1, -List.map_take, -List.map_drop, take_map', drop_map', fz_Span, fzMap fz_Span, shMap sh_Span]; rfl)) ?_
    refine appB (b := 64) (hs := by first | (have a1 := spec_ItemsOf_len p0.Out p1; have a2 := spec_ItemsOf_len p0.Queue p1; have a3 : p0.Out.length ≤ 1048576 := hs.2.2.2.2.2.2.1.1; have a4 : p0.Queue.length ≤ 1048576 := hs.2.2.2.2.2.1.1; have a5 : p0.Tasks.length ≤ 1048576 := hs.2.2.2.2.2.2.2.1.1; have a6 := spec_ItemsOf_len (p0.Tasks[x1.i]'hi1).Hand p1; have a7 : (p0.Tasks[x1.i]'hi1).Hand.length ≤ 1048576 := (hs.2.2.2.2.2.2.2.1.2 _ (List.getElem_mem hi1)).2.1; have q1 := hI1; have q2 := hi1; refine ⟨?_, ?_⟩; (show List.length _ * 64 ≤ _); (try simp only [List.length_map, List.length_append, List.length_cons, List.length_nil]); omega; (try simp only [List.length_map, List.length_append, List.length_cons, List.length_nil]); omega) | (have a1 := spec_ItemsOf_len p0.Out p1; have a2 := spec_ItemsOf_len p0.Queue p1; have a3 : p0.Out.length ≤ 1048576 := hs.2.2.2.2.2.2.1.1; have a4 : p0.Queue.length ≤ 1048576 := hs.2.2.2.2.2.1.1; have a5 : p0.Tasks.length ≤ 1048576 := hs.2.2.2.2.2.2.2.1.1; refine ⟨?_, ?_⟩; (show List.length _ * 64 ≤ _); (try simp only [List.length_map, List.length_append, List.length_cons, List.length_nil]); omega; (try simp only [List.length_map, List.length_append, List.length_cons, List.length_nil]); omega)) ?_
    refine litE (m := 8) rfl ?_
    exact x1.goE hi1 hb1 (by have a1 := spec_ItemsOf_len p0.Out p1; have a2 := spec_ItemsOf_len p0.Queue p1; have a3 : p0.Out.length ≤ 1048576 := hs.2.2.2.2.2.2.1.1; have a4 : p0.Queue.length ≤ 1048576 := hs.2.2.2.2.2.1.1; have a5 : p0.Tasks.length ≤ 1048576 := hs.2.2.2.2.2.2.2.1.1; have a6 := spec_ItemsOf_len (p0.Tasks[x1.i]'hi1).Hand p1; have a7 : (p0.Tasks[x1.i]'hi1).Hand.length ≤ 1048576 := (hs.2.2.2.2.2.2.2.1.2 _ (List.getElem_mem hi1)).2.1; have q1 := hI1; simp only [List.length_append]; omega) [some 0, none, none, none, none, some 8] ⟨rfl, ⟨⟨rfl, rfl, rfl, rfl, by (first | rfl | omega | (dsimp only; omega) | (simp; done) | (simp; omega) | (simp [LstSt.init, LstSt.step, LstInv.init, CntSt.init, CntSt.step, CntInv.init, WhlSt.init, WhlSt.step]; done) | (simp [LstSt.init, LstSt.step, LstInv.init, CntSt.init, CntSt.step, CntInv.init, WhlSt.init, WhlSt.step]; omega))⟩, (eqInt hw1), rfl, ⟨rfl, rfl, rfl, rfl⟩, trivial⟩, ⟨⟨rfl, rfl, ⟨rfl, rfl, rfl, rfl, rfl, rfl, rfl, rfl, rfl, rfl, rfl, rfl, rfl, rfl, rfl, rfl, rfl, rfl, rfl, rfl, rfl, rfl, rfl, rfl, rfl, rfl, rfl, rfl, rfl, rfl, rfl, rfl, trivial⟩⟩, ⟨rfl, rfl, rfl⟩, trivial⟩, trivial⟩
  have hg := finE hg (x1.fin hi1)
  refine seqE ?_
  exact leafE hown hg
theorem spec_Sent_len (p0 : World) (p1 : Int) (hs : World.bd 1048576 p0) : (spec_Sent p0 p1).length ≤ 1099513724928 := by
  have hT : p0.Tasks.length ≤ 1048576 := hs.2.2.2.2.2.2.2.1.1
  have key : ∀ (l : List Task) (i : Nat) (s : List Span), (∀ t ∈ l, t.Hand.length ≤ 1048576) → ∃ v, loopL (spec_Sent_b1 p1) i s l = .fin v ∧ v.length ≤ s.length + 1048576 * l.length := by
    intro l
    induction l with
    | nil => intro i s _; exact ⟨s, rfl, by simp⟩
    | cons t l ih =>
      intro i s h
      obtain ⟨v, e, hv⟩ := ih (i + 1) (s ++ spec_ItemsOf t.Hand p1) (fun x hx => h x (by simp [hx]))
      refine ⟨v, ?_, ?_⟩
      · unfold loopL; exact e
      · have h1 := spec_ItemsOf_len t.Hand p1
        have h2 := h t (by simp)
        simp only [List.length_append] at hv
        simp only [List.length_cons]; omega
  obtain ⟨v, e, hv⟩ := key p0.Tasks 0 (spec_ItemsOf p0.Out p1 ++ spec_ItemsOf p0.Queue p1) (fun t ht => (hs.2.2.2.2.2.2.2.1.2 t ht).2.1)
  unfold spec_Sent
  rw [e]
  have a1 := spec_ItemsOf_len p0.Out p1
  have a2 := spec_ItemsOf_len p0.Queue p1
  have a3 : p0.Out.length ≤ 1048576 := hs.2.2.2.2.2.2.1.1
  have a4 : p0.Queue.length ≤ 1048576 := hs.2.2.2.2.2.1.1
  simp only [List.length_append] at hv
  show v.length ≤ _
  omega
def impl_copySpan (p0 : Span) : Span :=
  p0
theorem c_impl_copySpan (p0 : Span) (hs : p0.Attrs.length ≤ 1048576) : FnOk prog 129 [.agg ((Span.cells false) p0)] ⟨.agg ((Span.cells true) (impl_copySpan p0)), [], [], false⟩ := by
  refine FnOk.intro (E := env) envOk wide func129 rfl (by kernel_rfl) rfl rfl ?_
  have hg := impl_copySpan.eq_1 p0
  have hown : ∀ g : Span, AV.Own (AV.agg ((Span.cells true) g)) := fun g => own_Span _
  refine seqE ?_
  refine litE (m := 0) rfl ?_
  refine litE (m := 1) rfl ?_
  refine seqE ?_
  refine .inl ?_
  refine rowsE (Y := List.map Attr.cells p0.Attrs) (by first | rfl | (simp [subR0, subR1, -List.map_take, -List.map_drop, take_map', drop_map', fz_Attr, fl_Attr, fzMap fz_Attr, flMap fl_Attr]; done) | (simp [subR0, subR1, -List.map_take, -List.map_drop, take_map', drop_map', fz_Attr, fl_Attr, fzMap fz_Attr, flMap fl_Attr]; rfl)) ?_
  refine appB (b := 48) (hs := by have hl := hs; refine ⟨?_, ?_⟩; (show List.length _ * 48 ≤ _); (try simp only [List.length_map, List.length_append, List.length_cons, List.length_nil]); omega; (try simp only [List.length_map, List.length_append, List.length_cons, List.length_nil]); omega) ?_
  refine litE (m := 2) rfl ?_
  refine seqE ?_
  exact leafE hown hg
def impl_ItemsOf_b1 (p1 : Int) (i1 : Nat) (s1 : (List Span)) (a1 : Item) : Step ((List Span)) (List Span) :=
  (bif (a1.Stamp == p1) then (.next (s1 ++ [(impl_copySpan a1.S)])) else (.next s1))
def impl_ItemsOf (p0 : (List Item)) (p1 : Int) : (List Span) :=
  (Fin.get (fun s1 => s1) (loopL (impl_ItemsOf_b1 p1) 0 ([] : List Span) p0))
theorem c_impl_ItemsOf (p0 : (List Item)) (p1 : Int) (hs : bdS Item.bd 1048576 p0) : FnOk prog 78 [.one (.s false 7 (List.map (Item.cells false) p0)), .one (.v (.int .i64 p1))] ⟨.one (.s true 6 (List.map (Span.cells true) (impl_ItemsOf p0 p1))), [], [], false⟩ := by
  refine FnOk.intro (E := env) envOk wide func78 rfl (by kernel_rfl) rfl rfl ?_
  have hg := impl_ItemsOf.eq_1 p0 p1
  have hown : ∀ g : (List Span), AV.Own (AV.one (.s true 6 (List.map (Span.cells true) g))) := fun g => ownSl own_Span _
  refine seqE ?_
  refine seqE ?_
  refine seqE ?_
  refine seqE ?_
  refine lenM fun hN1 => ?_
  refine loopLI (fun (i : Nat) s => s.length ≤ i) hg (Nat.le_refl _) [1, 8, 9] (fun x1 => [(5, .one (.n 0 [] 1 0 (x1.s).length)), (10, .one (.v (.int .i64 ((x1.i : Nat) : Int))))]) (fun x1 => [.new ⟨6, false, List.map (Span.cells true) x1.s, 0⟩]) [none] ?_ (fun x1 => ?_)
  · exact ⟨rfl, ⟨⟨rfl, rfl, rfl, rfl, rfl⟩, rfl, rfl, rfl, rfl, trivial⟩, ⟨⟨rfl, rfl⟩, trivial⟩, trivial⟩
  have hI1 := x1.hI
  try dsimp only at hI1
  refine seqE ?_
  refine seqE ?_
  refine tstL (fun hi1 => ?_) (fun hi1 => ?_)
  · have hb1 := (x1.bdy hi1).trans (impl_ItemsOf_b1.eq_1 ..)
    have hw1 := wrap_succ hi1 (by first | assumption | omega)
    refine seqE ?_
    refine seqE ?_
    refine idxAt hi1 ?_
    refine litE (m := 1) rfl ?_
    refine seqE ?_
    refine brQ hb1 (fun hb1 h2 => ?_) (fun hb1 h2 => x1.goE hi1 hb1 (by first | (have q1 := hI1; simp only [List.length_append, List.length_cons, List.length_nil]; omega) | exact Nat.le_succ_of_le hI1) [some 0] ⟨rfl, ⟨⟨rfl, rfl, rfl, rfl, by (first | rfl | omega | (dsimp only; omega) | (simp; done) | (simp; omega) | (simp [LstSt.init, LstSt.step, LstInv.init, CntSt.init, CntSt.step, CntInv.init, WhlSt.init, WhlSt.step]; done) | (simp [LstSt.init, LstSt.step, LstInv.init, CntSt.init, CntSt.step, CntInv.init, WhlSt.init, WhlSt.step]; omega))⟩, (eqInt hw1), rfl, rfl, rfl, trivial⟩, ⟨⟨rfl, rfl, rfl⟩, trivial⟩, trivial⟩)
    refine .inl (⟨_, _, c_impl_copySpan (p0[x1.i]'hi1).S (by exact (hs.2 _ (List.getElem_mem hi1)).1), (FzAs.same _), ?_⟩)
    refine litE (m := 3) rfl ?_
    refine litE (m := 4) rfl ?_
    refine .inl ?_
    refine rowsE (Y := List.map (Span.cells true) (x1.s ++ [(impl_copySpan (p0[x1.i]'hi1).S)])) (by first | rfl | (simp [subR0, subR1, -List.map_take, -List.map_drop, take_map', drop_map', fz_Span, fzMap fz_Span, shMap sh_Span]; done) | (simp [subR0, subR1, -List.map_take, -List.map_drop, take_map', drop_map', fz_Span, fzMap fz_Span, shMap sh_Span]; rfl)) ?_
    refine appB (b := 64) (hs := by have q0 := hs.1; have q1 := hI1; have q2 := hi1; refine ⟨?_, ?_⟩; (show List.length _ * 64 ≤ _); (try simp only [List.length_map, List.length_append, List.length_cons, List.length_nil]); omega; (try simp only [List.length_map, List.length_append, List.length_cons, List.length_nil]); omega) ?_
    refine litE (m := 5) rfl ?_
    exact x1.goE hi1 hb1 (by first | (have q1 := hI1; simp only [List.length_append, List.length_cons, List.length_nil]; omega) | exact Nat.le_succ_of_le hI1) [some 5] ⟨rfl, ⟨⟨rfl, rfl, rfl, rfl, by (first | rfl | omega | (dsimp only; omega) | (simp; done) | (simp; omega) | (simp [LstSt.init, LstSt.step, LstInv.init, CntSt.init, CntSt.step, CntInv.init, WhlSt.init, WhlSt.step]; done) | (simp [LstSt.init, LstSt.step, LstInv.init, CntSt.init, CntSt.step, CntInv.init, WhlSt.init, WhlSt.step]; omega))⟩, (eqInt hw1), rfl, rfl, rfl, trivial⟩, ⟨⟨rfl, rfl, rfl⟩, trivial⟩, trivial⟩
  have hg := finE hg (x1.fin hi1)
  refine seqE ?_
  exact leafE hown hg
theorem impl_ItemsOf_len (l : List Item) (k : Int) : (impl_ItemsOf l k).length ≤ l.length := by
  have : impl_ItemsOf l k = l.flatMap (fun a => bif a.Stamp == k then [impl_copySpan a.S] else []) := by
    unfold impl_ItemsOf
    rw [app_flat (b := impl_ItemsOf_b1 k) (fun a => bif a.Stamp == k then [impl_copySpan a.S] else []) (fun i s a => by unfold impl_ItemsOf_b1; cases (a.Stamp == k) <;> simp), List.nil_append]
    rfl
  rw [this]
  exact flat1_len (fun a => by cases (a.Stamp == k) <;> simp) l
def impl_Sent_b1 (p1 : Int) (i1 : Nat) (s1 : (List Span)) (a1 : Task) : Step ((List Span)) (List Span) :=
  (.next (s1 ++ (impl_ItemsOf a1.Hand p1)))
def impl_Sent (p0 : World) (p1 : Int) : (List Span) :=
  (Fin.get (fun s1 => s1) (loopL (impl_Sent_b1 p1) 0 ((impl_ItemsOf p0.Out p1) ++ (impl_ItemsOf p0.Queue p1)) p0.Tasks))
theorem c_impl_Sent (p0 : World) (p1 : Int) (hs : World.bd 1048576 p0) : FnOk prog 28 [.agg ((World.cells false) p0), .one (.v (.int .i64 p1))] ⟨.one (.s true 6 (List.map (Span.cells true) (impl_Sent p0 p1))), [], [], false⟩ := by
  refine FnOk.intro (E := env) envOk wide func28 rfl (by kernel_rfl) rfl rfl ?_
  have hg := impl_Sent.eq_1 p0 p1
  have hown : ∀ g : (List Span), AV.Own (AV.one (.s true 6 (List.map (Span.cells true) g))) := fun g => ownSl own_Span _
  refine seqE ?_
  refine litE (m := 0) rfl ?_
  refine seqE ?_
  refine .inr (.inl ⟨8, [(0, true), (1, true), (2, true), (4, true), (5, true), (6, true), (3, false), (7, false)], by kernel_rfl, ?_⟩)
  refine ⟨_, _, c_impl_ItemsOf p0.Out p1 (by first | exact hs.2.2.2.2.2.2.1 | exact hs.2.2.2.2.2.1 | exact (hs.2.2.2.2.2.2.2.1.2 _ (List.getElem_mem hi1)).2), (FzAs.same _), ?_⟩
  refine litE (m := 2) rfl ?_
  refine ⟨_, _, c_impl_ItemsOf p0.Queue p1 (by first | exact hs.2.2.2.2.2.2.1 | exact hs.2.2.2.2.2.1 | exact (hs.2.2.2.2.2.2.2.1.2 _ (List.getElem_mem hi1)).2), (FzAs.same _), ?_⟩
  refine litE (m := 4) rfl ?_
  refine .inl ?_
  refine rowsE (Y := List.map (Span.cells true) ((impl_ItemsOf p0.Out p1) ++ (impl_ItemsOf p0.Queue p1))) (by first | rfl | (simp [subR0, subR1, -List.map_take, -List.map_drop, take_map', drop_map', fz_Span, fzMap fz_Span, shMap sh_Span]; done) | (simp [subR0, subR1, -List.map_take, -List.map_drop, take_map', drop_map', fz_Span, fzMap fz_Span, shMap sh_Span]; rfl)) ?_
  refine appB (b := 64) (hs := by first | (have a1 := impl_ItemsOf_len p0.Out p1; have a2 := impl_ItemsOf_len p0.Queue p1; have a3 : p0.Out.length ≤ 1048576 := hs.2.2.2.2.2.2.1.1; have a4 : p0.Queue.length ≤ 1048576 := hs.2.2.2.2.2.1.1; have a5 : p0.Tasks.length ≤ 1048576 := hs.2.2.2.2.2.2.2.1.1; have a6 := impl_ItemsOf_len (p0.Tasks[x1.i]'hi1).Hand p1; have a7 : (p0.Tasks[x1.i]'hi1).Hand.length ≤ 1048576 := (hs.2.2.2.2.2.2.2.1.2 _ (List.getElem_mem hi1)).2.1; have q1 := hI1; have q2 := hi1; refine ⟨?_, ?_⟩; (show List.length _ * 64 ≤ _); (try simp only [List.length_map, List.length_append, List.length_cons, List.length_nil]); omega; (try simp only [List.length_map, List.length_append, List.length_cons, List.length_nil]); omega) | (have a1 := impl_ItemsOf_len p0.Out p1; have a2 := impl_ItemsOf_len p0.Queue p1; have a3 : p0.Out.length ≤ 1048576 := hs.2.2.2.2.2.2.1.1; have a4 : p0.Queue.length ≤ 1048576 := hs.2.2.2.2.2.1.1; have a5 : p0.Tasks.length ≤ 1048576 := hs.2.2.2.2.2.2.2.1.1; refine ⟨?_, ?_⟩; (show List.length _ * 64 ≤ _); (try simp only [List.length_map, List.length_append, List.length_cons, List.length_nil]); omega; (try simp only [List.length_map, List.length_append, List.length_cons, List.length_nil]); omega)) ?_
  refine litE (m := 5) rfl ?_
  refine seqE ?_
  refine seqE ?_
  refine lenM fun hN1 => ?_
  refine loopLI (fun (i : Nat) s => s.length ≤ 2097152 + 1048576 * i) hg (by have a1 := impl_ItemsOf_len p0.Out p1; have a2 := impl_ItemsOf_len p0.Queue p1; have a3 : p0.Out.length ≤ 1048576 := hs.2.2.2.2.2.2.1.1; have a4 : p0.Queue.length ≤ 1048576 := hs.2.2.2.2.2.1.1; have a5 : p0.Tasks.length ≤ 1048576 := hs.2.2.2.2.2.2.2.1.1; simp only [List.length_append]; omega) [1, 18, 19] (fun x1 => [(5, .one (.n 5 [] 1 0 (x1.s).length)), (20, .one (.v (.int .i64 ((x1.i : Nat) : Int))))]) (fun x1 => [.dead, .dead, .dead, .dead, .dead, .new ⟨6, false, List.map (Span.cells true) x1.s, 0⟩]) [none, none, none, none, none, some 5] ?_ (fun x1 => ?_)
  · exact ⟨rfl, ⟨⟨rfl, rfl, rfl, rfl, by (first | rfl | omega | (dsimp only; omega) | (simp; done) | (simp; omega) | (simp [LstSt.init, LstSt.step, LstInv.init, CntSt.init, CntSt.step, CntInv.init, WhlSt.init, WhlSt.step]; done) | (simp [LstSt.init, LstSt.step, LstInv.init, CntSt.init, CntSt.step, CntInv.init, WhlSt.init, WhlSt.step]; omega))⟩, rfl, rfl, rfl, rfl, trivial⟩, ⟨⟨rfl, rfl, rfl⟩, trivial⟩, trivial⟩
  have hI1 := x1.hI
  try dsimp only at hI1
  refine seqE ?_
  refine seqE ?_
  refine tstL (fun hi1 => ?_) (fun hi1 => ?_)
  · have hb1 := (x1.bdy hi1).trans (impl_Sent_b1.eq_1 ..)
    have hw1 := wrap_succ hi1 (by first | assumption | omega)
    refine seqE ?_
    refine seqE ?_
    refine idxAt hi1 ?_
    refine litE (m := 6) rfl ?_
    refine .inl (⟨_, _, c_impl_ItemsOf (p0.Tasks[x1.i]'hi1).Hand p1 (by first | exact hs.2.2.2.2.2.2.1 | exact hs.2.2.2.2.2.1 | exact (hs.2.2.2.2.2.2.2.1.2 _ (List.getElem_mem hi1)).2), (FzAs.same _), ?_⟩)
    refine litE (m := 8) rfl ?_
    refine .inl ?_
    refine rowsE (Y := List.map (Span.cells true) (x1.s ++ (impl_ItemsOf (p0.Tasks[x1.i]'hi1).Hand p1))) (by first | rfl | (simp [subR0, subR1, -List.map_take, -List.map_drop, take_map', drop_map', fz_Span, fzMap fz_Span, shMap sh_Span]; done) | (simp [subR0, subR1, -List.map_take, -List.map_drop, take_map', drop_map', fz_Span, fzMap fz_Span, shMap sh_Span]; rfl)) ?_
    refine appB (b := 64) (hs := by first | (have a1 := impl_ItemsOf_len p0.Out p1; have a2 := impl_ItemsOf_len p0.Queue p1; have a3 : p0.Out.length ≤ 1048576 := hs.2.2.2.2.2.2.1.1; have a4 : p0.Queue.length ≤ 1048576 := hs.2.2.2.2.2.1.1; have a5 : p0.Tasks.length ≤ 1048576 := hs.2.2.2.2.2.2.2.1.1; have a6 := impl_ItemsOf_len (p0.Tasks[x1.i]'hi1).Hand p1; have a7 : (p0.Tasks[x1.i]'hi1).Hand.length ≤ 1048576 := (hs.2.2.2.2.2.2.2.1.2 _ (List.getElem_mem hi1)).2.1; have q1 := hI1; have q2 := hi1; refine ⟨?_, ?_⟩; (show List.length _ * 64 ≤ _); (try simp only [List.length_map, List.length_append, List.length_cons, List.length_nil]); omega; (try simp only [List.length_map, List.length_append, List.length_cons, List.length_nil]); omega) | (have a1 := impl_ItemsOf_len p0.Out p1; have a2 := impl_ItemsOf_len p0.Queue p1; have a3 : p0.Out.length ≤ 1048576 := hs.2.2.2.2.2.2.1.1; have a4 : p0.Queue.length ≤ 1048576 := hs.2.2.2.2.2.1.1; have a5 : p0.Tasks.length ≤ 1048576 := hs.2.2.2.2.2.2.2.1.1; refine ⟨?_, ?_⟩; (show List.length _ * 64 ≤ _); (try simp only [List.length_map, List.length_append, List.length_cons, List.length_nil]); omega; (try simp only [List.length_map, List.length_append, List.length_cons, List.length_nil]); omega)) ?_
    refine litE (m := 9) rfl ?_
    exact x1.goE hi1 hb1 (by have a1 := impl_ItemsOf_len p0.Out p1; have a2 := impl_ItemsOf_len p0.Queue p1; have a3 : p0.Out.length ≤ 1048576 := hs.2.2.2.2.2.2.1.1; have a4 : p0.Queue.length ≤ 1048576 := hs.2.2.2.2.2.1.1; have a5 : p0.Tasks.length ≤ 1048576 := hs.2.2.2.2.2.2.2.1.1; have a6 := impl_ItemsOf_len (p0.Tasks[x1.i]'hi1).Hand p1; have a7 : (p0.Tasks[x1.i]'hi1).Hand.length ≤ 1048576 := (hs.2.2.2.2.2.2.2.1.2 _ (List.getElem_mem hi1)).2.1; have q1 := hI1; simp only [List.length_append]; omega) [none, none, none, none, none, some 9] ⟨rfl, ⟨⟨rfl, rfl, rfl, rfl, by (first | rfl | omega | (dsimp only; omega) | (simp; done) | (simp; omega) | (simp [LstSt.init, LstSt.step, LstInv.init, CntSt.init, CntSt.step, CntInv.init, WhlSt.init, WhlSt.step]; done) | (simp [LstSt.init, LstSt.step, LstInv.init, CntSt.init, CntSt.step, CntInv.init, WhlSt.init, WhlSt.step]; omega))⟩, (eqInt hw1), rfl, rfl, rfl, trivial⟩, ⟨⟨rfl, rfl, rfl⟩, trivial⟩, trivial⟩
  have hg := finE hg (x1.fin hi1)
  refine seqE ?_
  exact leafE hown hg
theorem impl_Sent_len (p0 : World) (p1 : Int) (hs : World.bd 1048576 p0) : (impl_Sent p0 p1).length ≤ 1099513724928 := by
  have hT : p0.Tasks.length ≤ 1048576 := hs.2.2.2.2.2.2.2.1.1
  have key : ∀ (l : List Task) (i : Nat) (s : List Span), (∀ t ∈ l, t.Hand.length ≤ 1048576) → ∃ v, loopL (impl_Sent_b1 p1) i s l = .fin v ∧ v.length ≤ s.length + 1048576 * l.length := by
    intro l
    induction l with
    | nil => intro i s _; exact ⟨s, rfl, by simp⟩
    | cons t l ih =>
      intro i s h
      obtain ⟨v, e, hv⟩ := ih (i + 1) (s ++ impl_ItemsOf t.Hand p1) (fun x hx => h x (by simp [hx]))
      refine ⟨v, ?_, ?_⟩
      · unfold loopL; exact e
      · have h1 := impl_ItemsOf_len t.Hand p1
        have h2 := h t (by simp)
        simp only [List.length_append] at hv
        simp only [List.length_cons]; omega
  obtain ⟨v, e, hv⟩ := key p0.Tasks 0 (impl_ItemsOf p0.Out p1 ++ impl_ItemsOf p0.Queue p1) (fun t ht => (hs.2.2.2.2.2.2.2.1.2 t ht).2.1)
  unfold impl_Sent
  rw [e]
  have a1 := impl_ItemsOf_len p0.Out p1
  have a2 := impl_ItemsOf_len p0.Queue p1
  have a3 : p0.Out.length ≤ 1048576 := hs.2.2.2.2.2.2.1.1
  have a4 : p0.Queue.length ≤ 1048576 := hs.2.2.2.2.2.1.1
  simp only [List.length_append] at hv
  show v.length ≤ _
  omega
def laws_eqAttr (p0 : Attr) (p1 : Attr) : Bool :=
  (bif (!decide (p0.Key = p1.Key)) then false else (bif (!(p0.Num == p1.Num)) then false else (bif (p0.N != p1.N) then false else (bif (!decide (p0.Text = p1.Text)) then false else true))))
theorem c_laws_eqAttr (p0 : Attr) (p1 : Attr) : FnOk prog 160 [.agg (Attr.cells p0), .agg (Attr.cells p1)] ⟨.one (.v (.bool (laws_eqAttr p0 p1))), [], [], false⟩ := by
  refine FnOk.intro (E := env) envOk wide func160 rfl (by kernel_rfl) rfl rfl ?_
  have hg := laws_eqAttr.eq_1 p0 p1
  have hown : ∀ g : Bool, AV.Own (AV.one (.v (.bool g))) := fun g => .v _
  refine seqE ?_
  refine litE (m := 0) rfl ?_
  refine litE (m := 1) rfl ?_
  refine seqE ?_
  refine seqE ?_
  refine brE hg (fun hg h1 => ?_) (fun hg h1 => ?_)
  · refine seqE ?_
    exact leafE hown hg
  · refine seqE ?_
    refine seqE ?_
    refine brE hg (fun hg h2 => ?_) (fun hg h2 => ?_)
    · refine seqE ?_
      exact leafE hown hg
    · refine seqE ?_
      refine seqE ?_
      refine brW hg (fun hg h3 => ?_) (fun hg h3 => ?_)
      · refine seqE ?_
        exact leafE hown hg
      · refine seqE ?_
        refine seqE ?_
        refine brE hg (fun hg h4 => ?_) (fun hg h4 => ?_)
        · refine seqE ?_
          exact leafE hown hg
        · refine seqE ?_
          exact leafE hown hg
theorem rf_laws_eqAttr (x : Attr) : laws_eqAttr x x = true := by
  simp [laws_eqAttr]
def laws_eqAttrS_b1 (p1 : (List Attr)) (i1 : Nat) (s1 : Unit) (a1 : Attr) : Step (Unit) Bool :=
  (bif (!(laws_eqAttr a1 (p1[i1]?.getD default))) then (.done false) else (.next ()))
def laws_eqAttrS (p0 : (List Attr)) (p1 : (List Attr)) : Bool :=
  (bif ((((p0).length : Nat) : Int) != (((p1).length : Nat) : Int)) then false else (Fin.get (fun s1 => true) (loopL (laws_eqAttrS_b1 p1) 0 () p0)))
theorem c_laws_eqAttrS (p0 : (List Attr)) (p1 : (List Attr)) : FnOk prog 130 [.one (.s false 4 (List.map Attr.cells p0)), .one (.s false 4 (List.map Attr.cells p1))] ⟨.one (.v (.bool (laws_eqAttrS p0 p1))), [], [], false⟩ := by
  refine FnOk.intro (E := env) envOk wide func130 rfl (by kernel_rfl) rfl rfl ?_
  have hg := laws_eqAttrS.eq_1 p0 p1
  have hown : ∀ g : Bool, AV.Own (AV.one (.v (.bool g))) := fun g => .v _
  refine seqE ?_
  refine seqE ?_
  refine seqE ?_
  refine lenM fun hN1 => ?_
  refine lenM fun hN2 => ?_
  refine brW hg (fun hg h3 => ?_) (fun hg h3 => ?_)
  · refine seqE ?_
    exact leafE hown hg
  · refine seqE ?_
    refine seqE ?_
    refine loopLE hg [0, 1] (fun x1 => [(5, .one (.v (.int .i64 ((x1.i : Nat) : Int))))]) (fun x1 => []) [] ?_ (fun x1 => ?_)
    · exact ⟨rfl, ⟨rfl, rfl, rfl, trivial⟩, trivial, trivial⟩
    refine seqE ?_
    refine seqE ?_
    refine lenM fun hN4 => ?_
    refine tstL (fun hi1 => ?_) (fun hi1 => ?_)
    · have hb1 := (x1.bdy hi1).trans (laws_eqAttrS_b1.eq_1 ..)
      have hw1 := wrap_succ hi1 (by first | assumption | omega)
      refine seqE ?_
      refine seqE ?_
      refine .inl ⟨by kernel_rfl, ?_⟩
      refine idxAt hi1 ?_
      refine idxOf (l := p1) (by (first | omega | (simp (disch := omega) only [wrap_small, mid_eq, List.length_map]; omega) | (simp; done) | (simp; omega) | (simp at *; omega) | (simp at *; done) | (simp_all; done) | (simp_all; omega))) (fun hq5 => ?_)
      refine ⟨_, _, c_laws_eqAttr (p0[x1.i]'hi1) (p1[x1.i]?.getD default), (FzAs.same _), ?_⟩
      refine brE hb1 (fun hb1 h6 => ?_) (fun hb1 h6 => x1.goE hi1 hb1 [] ⟨rfl, ⟨(eqInt hw1), rfl, rfl, trivial⟩, trivial, trivial⟩)
      refine seqE ?_
      have hg := donE hg (x1.outD hi1 hb1)
      exact leafE hown hg
    have hg := finE hg (x1.fin hi1)
    refine seqE ?_
    exact leafE hown hg
theorem rf_laws_eqAttrS (x : (List Attr)) : laws_eqAttrS x x = true := eqS_ok (b := laws_eqAttrS_b1) rf_laws_eqAttr (fun _ _ _ _ => rfl) (fun _ _ => rfl) x
def laws_eqSpan (p0 : Span) (p1 : Span) : Bool :=
  (bif (p0.Trace != p1.Trace) then false else (bif (p0.Id != p1.Id) then false else (bif (p0.Start != p1.Start) then false else (bif (p0.End != p1.End) then false else (bif (!(p0.Err == p1.Err)) then false else (bif (!(laws_eqAttrS p0.Attrs p1.Attrs)) then false else true))))))
theorem c_laws_eqSpan (p0 : Span) (p1 : Span) : FnOk prog 79 [.agg ((Span.cells false) p0), .agg ((Span.cells false) p1)] ⟨.one (.v (.bool (laws_eqSpan p0 p1))), [], [], false⟩ := by
  refine FnOk.intro (E := env) envOk wide func79 rfl (by kernel_rfl) rfl rfl ?_
  have hg := laws_eqSpan.eq_1 p0 p1
  have hown : ∀ g : Bool, AV.Own (AV.one (.v (.bool g))) := fun g => .v _
  refine seqE ?_
  refine litE (m := 0) rfl ?_
  refine litE (m := 1) rfl ?_
  refine seqE ?_
  refine seqE ?_
  refine brW hg (fun hg h1 => ?_) (fun hg h1 => ?_)
  · refine seqE ?_
    exact leafE hown hg
  · refine seqE ?_
    refine seqE ?_
    refine brW hg (fun hg h2 => ?_) (fun hg h2 => ?_)
    · refine seqE ?_
      exact leafE hown hg
    · refine seqE ?_
      refine seqE ?_
      refine brW hg (fun hg h3 => ?_) (fun hg h3 => ?_)
      · refine seqE ?_
        exact leafE hown hg
      · refine seqE ?_
        refine seqE ?_
        refine brW hg (fun hg h4 => ?_) (fun hg h4 => ?_)
        · refine seqE ?_
          exact leafE hown hg
        · refine seqE ?_
          refine seqE ?_
          refine brE hg (fun hg h5 => ?_) (fun hg h5 => ?_)
          · refine seqE ?_
            exact leafE hown hg
          · refine seqE ?_
            refine seqE ?_
            refine .inl (⟨_, _, c_laws_eqAttrS p0.Attrs p1.Attrs, (FzAs.same _), ?_⟩)
            refine litE (m := 3) rfl ?_
            refine brE hg (fun hg h6 => ?_) (fun hg h6 => ?_)
            · refine seqE ?_
              exact leafE hown hg
            · refine seqE ?_
              exact leafE hown hg
theorem rf_laws_eqSpan (x : Span) : laws_eqSpan x x = true := by
  simp [laws_eqSpan, rf_laws_eqAttrS]
def laws_eqSpanS_b1 (p1 : (List Span)) (i1 : Nat) (s1 : Unit) (a1 : Span) : Step (Unit) Bool :=
  (bif (!(laws_eqSpan a1 (p1[i1]?.getD default))) then (.done false) else (.next ()))
def laws_eqSpanS (p0 : (List Span)) (p1 : (List Span)) : Bool :=
  (bif ((((p0).length : Nat) : Int) != (((p1).length : Nat) : Int)) then false else (Fin.get (fun s1 => true) (loopL (laws_eqSpanS_b1 p1) 0 () p0)))
theorem c_laws_eqSpanS (p0 : (List Span)) (p1 : (List Span)) : FnOk prog 29 [.one (.s false 6 (List.map (Span.cells false) p0)), .one (.s false 6 (List.map (Span.cells false) p1))] ⟨.one (.v (.bool (laws_eqSpanS p0 p1))), [], [], false⟩ := by
  refine FnOk.intro (E := env) envOk wide func29 rfl (by kernel_rfl) rfl rfl ?_
  have hg := laws_eqSpanS.eq_1 p0 p1
  have hown : ∀ g : Bool, AV.Own (AV.one (.v (.bool g))) := fun g => .v _
  refine seqE ?_
  refine seqE ?_
  refine seqE ?_
  refine lenM fun hN1 => ?_
  refine lenM fun hN2 => ?_
  refine brW hg (fun hg h3 => ?_) (fun hg h3 => ?_)
  · refine seqE ?_
    exact leafE hown hg
  · refine seqE ?_
    refine seqE ?_
    refine loopLE hg [0, 1] (fun x1 => [(5, .one (.v (.int .i64 ((x1.i : Nat) : Int))))]) (fun x1 => []) [] ?_ (fun x1 => ?_)
    · exact ⟨rfl, ⟨rfl, rfl, rfl, trivial⟩, trivial, trivial⟩
    refine seqE ?_
    refine seqE ?_
    refine lenM fun hN4 => ?_
    refine tstL (fun hi1 => ?_) (fun hi1 => ?_)
    · have hb1 := (x1.bdy hi1).trans (laws_eqSpanS_b1.eq_1 ..)
      have hw1 := wrap_succ hi1 (by first | assumption | omega)
      refine seqE ?_
      refine seqE ?_
      refine .inl ⟨by kernel_rfl, ?_⟩
      refine idxAt hi1 ?_
      refine idxOf (l := p1) (by (first | omega | (simp (disch := omega) only [wrap_small, mid_eq, List.length_map]; omega) | (simp; done) | (simp; omega) | (simp at *; omega) | (simp at *; done) | (simp_all; done) | (simp_all; omega))) (fun hq5 => ?_)
      refine ⟨_, _, c_laws_eqSpan (p0[x1.i]'hi1) (p1[x1.i]?.getD default), (FzAs.same _), ?_⟩
      refine brE hb1 (fun hb1 h6 => ?_) (fun hb1 h6 => x1.goE hi1 hb1 [] ⟨rfl, ⟨(eqInt hw1), rfl, rfl, trivial⟩, trivial, trivial⟩)
      refine seqE ?_
      have hg := donE hg (x1.outD hi1 hb1)
      exact leafE hown hg
    have hg := finE hg (x1.fin hi1)
    refine seqE ?_
    exact leafE hown hg
theorem rf_laws_eqSpanS (x : (List Span)) : laws_eqSpanS x x = true := eqS_ok (b := laws_eqSpanS_b1) rf_laws_eqSpan (fun _ _ _ _ => rfl) (fun _ _ => rfl) x
def laws_eqPolS_b1 (r0 : (Pol → Pol → Bool)) (p1 : (List Pol)) (i1 : Nat) (s1 : Unit) (a1 : Pol) : Step (Unit) Bool :=
  (bif (!(r0 a1 (p1[i1]?.getD default))) then (.done false) else (.next ()))
def laws_eqPolS (r0 : Pol → Pol → Bool) (p0 : (List Pol)) (p1 : (List Pol)) : Bool :=
  (bif ((((p0).length : Nat) : Int) != (((p1).length : Nat) : Int)) then false else (Fin.get (fun s1 => true) (loopL (laws_eqPolS_b1 r0 p1) 0 () p0)))
theorem c_laws_eqPolS (r0 : Pol → Pol → Bool) (p0 : (List Pol)) (p1 : (List Pol)) (m0 : Nat) (hrec0 : ∀ (z0 : Pol) (z1 : Pol), Pol.dep z0 < m0 → FnOk prog 57 [.agg (Pol.opn false z0), .agg (Pol.opn false z1)] ⟨.one (.v (.bool (r0 z0 z1))), [], [], false⟩) (hm0 : ∀ x ∈ p0, Pol.dep x < m0) : FnOk prog 115 [.one (.s false 5 (List.map (Pol.cells false) p0)), .one (.s false 5 (List.map (Pol.cells false) p1))] ⟨.one (.v (.bool (laws_eqPolS r0 p0 p1))), [], [], false⟩ := by
  refine FnOk.intro (E := env) envOk wide func115 rfl (by kernel_rfl) rfl rfl ?_
  have hg := laws_eqPolS.eq_1 r0 p0 p1
  have hown : ∀ g : Bool, AV.Own (AV.one (.v (.bool g))) := fun g => .v _
  refine seqE ?_
  refine seqE ?_
  refine seqE ?_
  refine lenM fun hN1 => ?_
  refine lenM fun hN2 => ?_
  refine brW hg (fun hg h3 => ?_) (fun hg h3 => ?_)
  · refine seqE ?_
    exact leafE hown hg
  · refine seqE ?_
    refine seqE ?_
    refine loopLE hg [0, 1] (fun x1 => [(5, .one (.v (.int .i64 ((x1.i : Nat) : Int))))]) (fun x1 => []) [] ?_ (fun x1 => ?_)
    · exact ⟨rfl, ⟨rfl, rfl, rfl, trivial⟩, trivial, trivial⟩
    refine seqE ?_
    refine seqE ?_
    refine lenM fun hN4 => ?_
    refine tstL (fun hi1 => ?_) (fun hi1 => ?_)
    · have hb1 := (x1.bdy hi1).trans (laws_eqPolS_b1.eq_1 ..)
      have hw1 := wrap_succ hi1 (by first | assumption | omega)
      refine seqE ?_
      refine seqE ?_
      refine .inl ⟨by kernel_rfl, ?_⟩
      refine idxAtR (Pol.cells_eq false) hi1 ?_
      refine idxOfR (Pol.cells_eq false) (l := p1) (by (first | omega | (simp (disch := omega) only [wrap_small, mid_eq, List.length_map]; omega) | (simp; done) | (simp; omega) | (simp at *; omega) | (simp at *; done) | (simp_all; done) | (simp_all; omega))) (fun hq5 => ?_)
      refine ⟨_, _, hrec0 (p0[x1.i]'hi1) (p1[x1.i]?.getD default) (by first | exact hm0 _ (List.getElem_mem _) | exact hm0 _ (List.mem_of_getElem? (by assumption)) | exact Nat.lt_of_lt_of_le (Pol.dep_lt (List.getElem_mem _)) (Nat.le_of_lt_succ hd0) | exact Nat.lt_of_lt_of_le (Pol.dep_lt (List.mem_of_getElem? (by assumption))) (Nat.le_of_lt_succ hd0)), (FzAs.same _), ?_⟩
      refine brE hb1 (fun hb1 h6 => ?_) (fun hb1 h6 => x1.goE hi1 hb1 [] ⟨rfl, ⟨(eqInt hw1), rfl, rfl, trivial⟩, trivial, trivial⟩)
      refine seqE ?_
      have hg := donE hg (x1.outD hi1 hb1)
      exact leafE hown hg
    have hg := finE hg (x1.fin hi1)
    refine seqE ?_
    exact leafE hown hg
def laws_eqPolR : Nat → Pol → Pol → Bool
  | 0, _, _ => default
  | n + 1, p0, p1 => (bif (p0.Kind != p1.Kind) then false else (bif (p0.N != p1.N) then false else (bif (!decide (p0.Key = p1.Key)) then false else (bif (!decide (p0.Text = p1.Text)) then false else (bif (!(laws_eqPolS (laws_eqPolR n) p0.L p1.L)) then false else true)))))
theorem cR_laws_eqPol : ∀ (n : Nat) (p0 : Pol) (p1 : Pol), Pol.dep p0 < n → FnOk prog 57 [.agg (Pol.opn false p0), .agg (Pol.opn false p1)] ⟨.one (.v (.bool (laws_eqPolR n p0 p1))), [], [], false⟩ := by
  intro n
  induction n with
  | zero => intro p0 p1 hd0; omega
  | succ n ih =>
    intro p0 p1 hd0
    refine FnOk.intro (E := env) envOk wide func57 rfl (by kernel_rfl) rfl rfl ?_
    have hg : laws_eqPolR (n + 1) p0 p1 = _ := laws_eqPolR.eq_2 ..
    have hown : ∀ g : Bool, AV.Own (AV.one (.v (.bool g))) := fun g => .v _
    refine seqE ?_
    refine litE (m := 0) rfl ?_
    refine litE (m := 1) rfl ?_
    refine seqE ?_
    refine seqE ?_
    refine brW hg (fun hg h1 => ?_) (fun hg h1 => ?_)
    · refine seqE ?_
      exact leafE hown hg
    · refine seqE ?_
      refine seqE ?_
      refine brW hg (fun hg h2 => ?_) (fun hg h2 => ?_)
      · refine seqE ?_
        exact leafE hown hg
      · refine seqE ?_
        refine seqE ?_
        refine brE hg (fun hg h3 => ?_) (fun hg h3 => ?_)
        · refine seqE ?_
          exact leafE hown hg
        · refine seqE ?_
          refine seqE ?_
          refine brE hg (fun hg h4 => ?_) (fun hg h4 => ?_)
          · refine seqE ?_
            exact leafE hown hg
          · refine seqE ?_
            refine seqE ?_
            refine .inl (⟨_, _, c_laws_eqPolS (laws_eqPolR n) p0.L p1.L n ih (by first | exact hm0 | exact fun x hx => Nat.lt_of_lt_of_le (Pol.dep_lt hx) (Nat.le_of_lt_succ hd0)), (FzAs.same _), ?_⟩)
            refine litE (m := 3) rfl ?_
            refine brE hg (fun hg h5 => ?_) (fun hg h5 => ?_)
            · refine seqE ?_
              exact leafE hown hg
            · refine seqE ?_
              exact leafE hown hg
def laws_eqPol (p0 : Pol) (p1 : Pol) : Bool := laws_eqPolR (Pol.dep p0 + 1) p0 p1
theorem c_laws_eqPol (p0 : Pol) (p1 : Pol) : FnOk prog 57 [.agg (Pol.opn false p0), .agg (Pol.opn false p1)] ⟨.one (.v (.bool (laws_eqPol p0 p1))), [], [], false⟩ := cR_laws_eqPol _ p0 p1 (Nat.lt_succ_self _)
theorem rfR_laws_eqPol : ∀ (n : Nat) (x : Pol), Pol.dep x < n → laws_eqPolR n x x = true := by
  intro n
  induction n with
  | zero => intro x h; omega
  | succ n ih =>
    intro x h
    have e : laws_eqPolS (laws_eqPolR n) x.L x.L = true := eqS_okM (b := laws_eqPolS_b1 (laws_eqPolR n)) x.L (fun a ha => ih a (Nat.lt_of_lt_of_le (Pol.dep_lt ha) (Nat.le_of_lt_succ h))) (fun _ _ _ _ => rfl) (fun _ _ => rfl)
    simp [laws_eqPolR, e]
theorem rf_laws_eqPol (x : Pol) : laws_eqPol x x = true := rfR_laws_eqPol _ x (Nat.lt_succ_self _)
def laws_eqConf (p0 : Conf) (p1 : Conf) : Bool :=
  (bif (p0.Stripes != p1.Stripes) then false else (bif (p0.Wait != p1.Wait) then false else (bif (p0.Budget != p1.Budget) then false else (bif (p0.Cache != p1.Cache) then false else (bif (p0.Queue != p1.Queue) then false else (bif (p0.Rate != p1.Rate) then false else (bif (p0.Burst != p1.Burst) then false else (bif (!(laws_eqPol p0.Rule p1.Rule)) then false else true))))))))
theorem c_laws_eqConf (p0 : Conf) (p1 : Conf) : FnOk prog 21 [.agg ((Conf.cells false) p0), .agg ((Conf.cells false) p1)] ⟨.one (.v (.bool (laws_eqConf p0 p1))), [], [], false⟩ := by
  refine FnOk.intro (E := env) envOk wide func21 rfl (by kernel_rfl) rfl rfl ?_
  have hg := laws_eqConf.eq_1 p0 p1
  have hown : ∀ g : Bool, AV.Own (AV.one (.v (.bool g))) := fun g => .v _
  refine seqE ?_
  refine litE (m := 0) rfl ?_
  refine litE (m := 1) rfl ?_
  refine seqE ?_
  refine seqE ?_
  refine brW hg (fun hg h1 => ?_) (fun hg h1 => ?_)
  · refine seqE ?_
    exact leafE hown hg
  · refine seqE ?_
    refine seqE ?_
    refine brW hg (fun hg h2 => ?_) (fun hg h2 => ?_)
    · refine seqE ?_
      exact leafE hown hg
    · refine seqE ?_
      refine seqE ?_
      refine brW hg (fun hg h3 => ?_) (fun hg h3 => ?_)
      · refine seqE ?_
        exact leafE hown hg
      · refine seqE ?_
        refine seqE ?_
        refine brW hg (fun hg h4 => ?_) (fun hg h4 => ?_)
        · refine seqE ?_
          exact leafE hown hg
        · refine seqE ?_
          refine seqE ?_
          refine brW hg (fun hg h5 => ?_) (fun hg h5 => ?_)
          · refine seqE ?_
            exact leafE hown hg
          · refine seqE ?_
            refine seqE ?_
            refine brW hg (fun hg h6 => ?_) (fun hg h6 => ?_)
            · refine seqE ?_
              exact leafE hown hg
            · refine seqE ?_
              refine seqE ?_
              refine brW hg (fun hg h7 => ?_) (fun hg h7 => ?_)
              · refine seqE ?_
                exact leafE hown hg
              · refine seqE ?_
                refine seqE ?_
                refine .inl (⟨_, _, c_laws_eqPol p0.Rule p1.Rule, (FzAs.same _), ?_⟩)
                refine litE (m := 3) rfl ?_
                refine brE hg (fun hg h8 => ?_) (fun hg h8 => ?_)
                · refine seqE ?_
                  exact leafE hown hg
                · refine seqE ?_
                  exact leafE hown hg
theorem rf_laws_eqConf (x : Conf) : laws_eqConf x x = true := by
  simp [laws_eqConf, rf_laws_eqPol]
def laws_eqTrail (p0 : Trail) (p1 : Trail) : Bool :=
  (bif (p0.Id != p1.Id) then false else (bif (p0.Stamp != p1.Stamp) then false else (bif (p0.First != p1.First) then false else (bif (!(laws_eqSpanS p0.Spans p1.Spans)) then false else true))))
theorem c_laws_eqTrail (p0 : Trail) (p1 : Trail) : FnOk prog 113 [.agg ((Trail.cells false) p0), .agg ((Trail.cells false) p1)] ⟨.one (.v (.bool (laws_eqTrail p0 p1))), [], [], false⟩ := by
  refine FnOk.intro (E := env) envOk wide func113 rfl (by kernel_rfl) rfl rfl ?_
  have hg := laws_eqTrail.eq_1 p0 p1
  have hown : ∀ g : Bool, AV.Own (AV.one (.v (.bool g))) := fun g => .v _
  refine seqE ?_
  refine litE (m := 0) rfl ?_
  refine litE (m := 1) rfl ?_
  refine seqE ?_
  refine seqE ?_
  refine brW hg (fun hg h1 => ?_) (fun hg h1 => ?_)
  · refine seqE ?_
    exact leafE hown hg
  · refine seqE ?_
    refine seqE ?_
    refine brW hg (fun hg h2 => ?_) (fun hg h2 => ?_)
    · refine seqE ?_
      exact leafE hown hg
    · refine seqE ?_
      refine seqE ?_
      refine brW hg (fun hg h3 => ?_) (fun hg h3 => ?_)
      · refine seqE ?_
        exact leafE hown hg
      · refine seqE ?_
        refine seqE ?_
        refine .inl (⟨_, _, c_laws_eqSpanS p0.Spans p1.Spans, (FzAs.same _), ?_⟩)
        refine litE (m := 3) rfl ?_
        refine brE hg (fun hg h4 => ?_) (fun hg h4 => ?_)
        · refine seqE ?_
          exact leafE hown hg
        · refine seqE ?_
          exact leafE hown hg
theorem rf_laws_eqTrail (x : Trail) : laws_eqTrail x x = true := by
  simp [laws_eqTrail, rf_laws_eqSpanS]
def laws_eqTrailS_b1 (p1 : (List Trail)) (i1 : Nat) (s1 : Unit) (a1 : Trail) : Step (Unit) Bool :=
  (bif (!(laws_eqTrail a1 (p1[i1]?.getD default))) then (.done false) else (.next ()))
def laws_eqTrailS (p0 : (List Trail)) (p1 : (List Trail)) : Bool :=
  (bif ((((p0).length : Nat) : Int) != (((p1).length : Nat) : Int)) then false else (Fin.get (fun s1 => true) (loopL (laws_eqTrailS_b1 p1) 0 () p0)))
theorem c_laws_eqTrailS (p0 : (List Trail)) (p1 : (List Trail)) : FnOk prog 54 [.one (.s false 4 (List.map (Trail.cells false) p0)), .one (.s false 4 (List.map (Trail.cells false) p1))] ⟨.one (.v (.bool (laws_eqTrailS p0 p1))), [], [], false⟩ := by
  refine FnOk.intro (E := env) envOk wide func54 rfl (by kernel_rfl) rfl rfl ?_
  have hg := laws_eqTrailS.eq_1 p0 p1
  have hown : ∀ g : Bool, AV.Own (AV.one (.v (.bool g))) := fun g => .v _
  refine seqE ?_
  refine seqE ?_
  refine seqE ?_
  refine lenM fun hN1 => ?_
  refine lenM fun hN2 => ?_
  refine brW hg (fun hg h3 => ?_) (fun hg h3 => ?_)
  · refine seqE ?_
    exact leafE hown hg
  · refine seqE ?_
    refine seqE ?_
    refine loopLE hg [0, 1] (fun x1 => [(5, .one (.v (.int .i64 ((x1.i : Nat) : Int))))]) (fun x1 => []) [] ?_ (fun x1 => ?_)
    · exact ⟨rfl, ⟨rfl, rfl, rfl, trivial⟩, trivial, trivial⟩
    refine seqE ?_
    refine seqE ?_
    refine lenM fun hN4 => ?_
    refine tstL (fun hi1 => ?_) (fun hi1 => ?_)
    · have hb1 := (x1.bdy hi1).trans (laws_eqTrailS_b1.eq_1 ..)
      have hw1 := wrap_succ hi1 (by first | assumption | omega)
      refine seqE ?_
      refine seqE ?_
      refine .inl ⟨by kernel_rfl, ?_⟩
      refine idxAt hi1 ?_
      refine idxOf (l := p1) (by (first | omega | (simp (disch := omega) only [wrap_small, mid_eq, List.length_map]; omega) | (simp; done) | (simp; omega) | (simp at *; omega) | (simp at *; done) | (simp_all; done) | (simp_all; omega))) (fun hq5 => ?_)
      refine ⟨_, _, c_laws_eqTrail (p0[x1.i]'hi1) (p1[x1.i]?.getD default), (FzAs.same _), ?_⟩
      refine brE hb1 (fun hb1 h6 => ?_) (fun hb1 h6 => x1.goE hi1 hb1 [] ⟨rfl, ⟨(eqInt hw1), rfl, rfl, trivial⟩, trivial, trivial⟩)
      refine seqE ?_
      have hg := donE hg (x1.outD hi1 hb1)
      exact leafE hown hg
    have hg := finE hg (x1.fin hi1)
    refine seqE ?_
    exact leafE hown hg
theorem rf_laws_eqTrailS (x : (List Trail)) : laws_eqTrailS x x = true := eqS_ok (b := laws_eqTrailS_b1) rf_laws_eqTrail (fun _ _ _ _ => rfl) (fun _ _ => rfl) x
def laws_eqStripe (p0 : Stripe) (p1 : Stripe) : Bool :=
  (bif (p0.Held != p1.Held) then false else (bif (!(laws_eqTrailS p0.L p1.L)) then false else true))
theorem c_laws_eqStripe (p0 : Stripe) (p1 : Stripe) : FnOk prog 131 [.agg ((Stripe.cells false) p0), .agg ((Stripe.cells false) p1)] ⟨.one (.v (.bool (laws_eqStripe p0 p1))), [], [], false⟩ := by
  refine FnOk.intro (E := env) envOk wide func131 rfl (by kernel_rfl) rfl rfl ?_
  have hg := laws_eqStripe.eq_1 p0 p1
  have hown : ∀ g : Bool, AV.Own (AV.one (.v (.bool g))) := fun g => .v _
  refine seqE ?_
  refine litE (m := 0) rfl ?_
  refine litE (m := 1) rfl ?_
  refine seqE ?_
  refine seqE ?_
  refine brW hg (fun hg h1 => ?_) (fun hg h1 => ?_)
  · refine seqE ?_
    exact leafE hown hg
  · refine seqE ?_
    refine seqE ?_
    refine .inl (⟨_, _, c_laws_eqTrailS p0.L p1.L, (FzAs.same _), ?_⟩)
    refine litE (m := 3) rfl ?_
    refine brE hg (fun hg h2 => ?_) (fun hg h2 => ?_)
    · refine seqE ?_
      exact leafE hown hg
    · refine seqE ?_
      exact leafE hown hg
theorem rf_laws_eqStripe (x : Stripe) : laws_eqStripe x x = true := by
  simp [laws_eqStripe, rf_laws_eqTrailS]
def laws_eqStripeS_b1 (p1 : (List Stripe)) (i1 : Nat) (s1 : Unit) (a1 : Stripe) : Step (Unit) Bool :=
  (bif (!(laws_eqStripe a1 (p1[i1]?.getD default))) then (.done false) else (.next ()))
def laws_eqStripeS (p0 : (List Stripe)) (p1 : (List Stripe)) : Bool :=
  (bif ((((p0).length : Nat) : Int) != (((p1).length : Nat) : Int)) then false else (Fin.get (fun s1 => true) (loopL (laws_eqStripeS_b1 p1) 0 () p0)))
theorem c_laws_eqStripeS (p0 : (List Stripe)) (p1 : (List Stripe)) : FnOk prog 80 [.one (.s false 2 (List.map (Stripe.cells false) p0)), .one (.s false 2 (List.map (Stripe.cells false) p1))] ⟨.one (.v (.bool (laws_eqStripeS p0 p1))), [], [], false⟩ := by
  refine FnOk.intro (E := env) envOk wide func80 rfl (by kernel_rfl) rfl rfl ?_
  have hg := laws_eqStripeS.eq_1 p0 p1
  have hown : ∀ g : Bool, AV.Own (AV.one (.v (.bool g))) := fun g => .v _
  refine seqE ?_
  refine seqE ?_
  refine seqE ?_
  refine lenM fun hN1 => ?_
  refine lenM fun hN2 => ?_
  refine brW hg (fun hg h3 => ?_) (fun hg h3 => ?_)
  · refine seqE ?_
    exact leafE hown hg
  · refine seqE ?_
    refine seqE ?_
    refine loopLE hg [0, 1] (fun x1 => [(5, .one (.v (.int .i64 ((x1.i : Nat) : Int))))]) (fun x1 => []) [] ?_ (fun x1 => ?_)
    · exact ⟨rfl, ⟨rfl, rfl, rfl, trivial⟩, trivial, trivial⟩
    refine seqE ?_
    refine seqE ?_
    refine lenM fun hN4 => ?_
    refine tstL (fun hi1 => ?_) (fun hi1 => ?_)
    · have hb1 := (x1.bdy hi1).trans (laws_eqStripeS_b1.eq_1 ..)
      have hw1 := wrap_succ hi1 (by first | assumption | omega)
      refine seqE ?_
      refine seqE ?_
      refine .inl ⟨by kernel_rfl, ?_⟩
      refine idxAt hi1 ?_
      refine idxOf (l := p1) (by (first | omega | (simp (disch := omega) only [wrap_small, mid_eq, List.length_map]; omega) | (simp; done) | (simp; omega) | (simp at *; omega) | (simp at *; done) | (simp_all; done) | (simp_all; omega))) (fun hq5 => ?_)
      refine ⟨_, _, c_laws_eqStripe (p0[x1.i]'hi1) (p1[x1.i]?.getD default), (FzAs.same _), ?_⟩
      refine brE hb1 (fun hb1 h6 => ?_) (fun hb1 h6 => x1.goE hi1 hb1 [] ⟨rfl, ⟨(eqInt hw1), rfl, rfl, trivial⟩, trivial, trivial⟩)
      refine seqE ?_
      have hg := donE hg (x1.outD hi1 hb1)
      exact leafE hown hg
    have hg := finE hg (x1.fin hi1)
    refine seqE ?_
    exact leafE hown hg
theorem rf_laws_eqStripeS (x : (List Stripe)) : laws_eqStripeS x x = true := eqS_ok (b := laws_eqStripeS_b1) rf_laws_eqStripe (fun _ _ _ _ => rfl) (fun _ _ => rfl) x
def laws_eqBucket (p0 : Bucket) (p1 : Bucket) : Bool :=
  (bif (p0.Rate != p1.Rate) then false else (bif (p0.Burst != p1.Burst) then false else (bif (p0.Tokens != p1.Tokens) then false else (bif (p0.At != p1.At) then false else true))))
theorem c_laws_eqBucket (p0 : Bucket) (p1 : Bucket) : FnOk prog 56 [.agg (Bucket.cells p0), .agg (Bucket.cells p1)] ⟨.one (.v (.bool (laws_eqBucket p0 p1))), [], [], false⟩ := by
  refine FnOk.intro (E := env) envOk wide func56 rfl (by kernel_rfl) rfl rfl ?_
  have hg := laws_eqBucket.eq_1 p0 p1
  have hown : ∀ g : Bool, AV.Own (AV.one (.v (.bool g))) := fun g => .v _
  refine seqE ?_
  refine litE (m := 0) rfl ?_
  refine litE (m := 1) rfl ?_
  refine seqE ?_
  refine seqE ?_
  refine brW hg (fun hg h1 => ?_) (fun hg h1 => ?_)
  · refine seqE ?_
    exact leafE hown hg
  · refine seqE ?_
    refine seqE ?_
    refine brW hg (fun hg h2 => ?_) (fun hg h2 => ?_)
    · refine seqE ?_
      exact leafE hown hg
    · refine seqE ?_
      refine seqE ?_
      refine brW hg (fun hg h3 => ?_) (fun hg h3 => ?_)
      · refine seqE ?_
        exact leafE hown hg
      · refine seqE ?_
        refine seqE ?_
        refine brW hg (fun hg h4 => ?_) (fun hg h4 => ?_)
        · refine seqE ?_
          exact leafE hown hg
        · refine seqE ?_
          exact leafE hown hg
theorem rf_laws_eqBucket (x : Bucket) : laws_eqBucket x x = true := by
  simp [laws_eqBucket]
def laws_eqVerdict (p0 : Verdict) (p1 : Verdict) : Bool :=
  (bif (p0.Trace != p1.Trace) then false else (bif (p0.Stamp != p1.Stamp) then false else (bif (!(p0.Keep == p1.Keep)) then false else true)))
theorem c_laws_eqVerdict (p0 : Verdict) (p1 : Verdict) : FnOk prog 114 [.agg (Verdict.cells p0), .agg (Verdict.cells p1)] ⟨.one (.v (.bool (laws_eqVerdict p0 p1))), [], [], false⟩ := by
  refine FnOk.intro (E := env) envOk wide func114 rfl (by kernel_rfl) rfl rfl ?_
  have hg := laws_eqVerdict.eq_1 p0 p1
  have hown : ∀ g : Bool, AV.Own (AV.one (.v (.bool g))) := fun g => .v _
  refine seqE ?_
  refine litE (m := 0) rfl ?_
  refine litE (m := 1) rfl ?_
  refine seqE ?_
  refine seqE ?_
  refine brW hg (fun hg h1 => ?_) (fun hg h1 => ?_)
  · refine seqE ?_
    exact leafE hown hg
  · refine seqE ?_
    refine seqE ?_
    refine brW hg (fun hg h2 => ?_) (fun hg h2 => ?_)
    · refine seqE ?_
      exact leafE hown hg
    · refine seqE ?_
      refine seqE ?_
      refine brE hg (fun hg h3 => ?_) (fun hg h3 => ?_)
      · refine seqE ?_
        exact leafE hown hg
      · refine seqE ?_
        exact leafE hown hg
theorem rf_laws_eqVerdict (x : Verdict) : laws_eqVerdict x x = true := by
  simp [laws_eqVerdict]
def laws_eqVerdictS_b1 (p1 : (List Verdict)) (i1 : Nat) (s1 : Unit) (a1 : Verdict) : Step (Unit) Bool :=
  (bif (!(laws_eqVerdict a1 (p1[i1]?.getD default))) then (.done false) else (.next ()))
def laws_eqVerdictS (p0 : (List Verdict)) (p1 : (List Verdict)) : Bool :=
  (bif ((((p0).length : Nat) : Int) != (((p1).length : Nat) : Int)) then false else (Fin.get (fun s1 => true) (loopL (laws_eqVerdictS_b1 p1) 0 () p0)))
theorem c_laws_eqVerdictS (p0 : (List Verdict)) (p1 : (List Verdict)) : FnOk prog 55 [.one (.s false 3 (List.map Verdict.cells p0)), .one (.s false 3 (List.map Verdict.cells p1))] ⟨.one (.v (.bool (laws_eqVerdictS p0 p1))), [], [], false⟩ := by
  refine FnOk.intro (E := env) envOk wide func55 rfl (by kernel_rfl) rfl rfl ?_
  have hg := laws_eqVerdictS.eq_1 p0 p1
  have hown : ∀ g : Bool, AV.Own (AV.one (.v (.bool g))) := fun g => .v _
  refine seqE ?_
  refine seqE ?_
  refine seqE ?_
  refine lenM fun hN1 => ?_
  refine lenM fun hN2 => ?_
  refine brW hg (fun hg h3 => ?_) (fun hg h3 => ?_)
  · refine seqE ?_
    exact leafE hown hg
  · refine seqE ?_
    refine seqE ?_
    refine loopLE hg [0, 1] (fun x1 => [(5, .one (.v (.int .i64 ((x1.i : Nat) : Int))))]) (fun x1 => []) [] ?_ (fun x1 => ?_)
    · exact ⟨rfl, ⟨rfl, rfl, rfl, trivial⟩, trivial, trivial⟩
    refine seqE ?_
    refine seqE ?_
    refine lenM fun hN4 => ?_
    refine tstL (fun hi1 => ?_) (fun hi1 => ?_)
    · have hb1 := (x1.bdy hi1).trans (laws_eqVerdictS_b1.eq_1 ..)
      have hw1 := wrap_succ hi1 (by first | assumption | omega)
      refine seqE ?_
      refine seqE ?_
      refine .inl ⟨by kernel_rfl, ?_⟩
      refine idxAt hi1 ?_
      refine idxOf (l := p1) (by (first | omega | (simp (disch := omega) only [wrap_small, mid_eq, List.length_map]; omega) | (simp; done) | (simp; omega) | (simp at *; omega) | (simp at *; done) | (simp_all; done) | (simp_all; omega))) (fun hq5 => ?_)
      refine ⟨_, _, c_laws_eqVerdict (p0[x1.i]'hi1) (p1[x1.i]?.getD default), (FzAs.same _), ?_⟩
      refine brE hb1 (fun hb1 h6 => ?_) (fun hb1 h6 => x1.goE hi1 hb1 [] ⟨rfl, ⟨(eqInt hw1), rfl, rfl, trivial⟩, trivial, trivial⟩)
      refine seqE ?_
      have hg := donE hg (x1.outD hi1 hb1)
      exact leafE hown hg
    have hg := finE hg (x1.fin hi1)
    refine seqE ?_
    exact leafE hown hg
theorem rf_laws_eqVerdictS (x : (List Verdict)) : laws_eqVerdictS x x = true := eqS_ok (b := laws_eqVerdictS_b1) rf_laws_eqVerdict (fun _ _ _ _ => rfl) (fun _ _ => rfl) x
def laws_eqTimer (p0 : Timer) (p1 : Timer) : Bool :=
  (bif (p0.Id != p1.Id) then false else (bif (p0.Trace != p1.Trace) then false else (bif (p0.At != p1.At) then false else true)))
theorem c_laws_eqTimer (p0 : Timer) (p1 : Timer) : FnOk prog 133 [.agg (Timer.cells p0), .agg (Timer.cells p1)] ⟨.one (.v (.bool (laws_eqTimer p0 p1))), [], [], false⟩ := by
  refine FnOk.intro (E := env) envOk wide func133 rfl (by kernel_rfl) rfl rfl ?_
  have hg := laws_eqTimer.eq_1 p0 p1
  have hown : ∀ g : Bool, AV.Own (AV.one (.v (.bool g))) := fun g => .v _
  refine seqE ?_
  refine litE (m := 0) rfl ?_
  refine litE (m := 1) rfl ?_
  refine seqE ?_
  refine seqE ?_
  refine brW hg (fun hg h1 => ?_) (fun hg h1 => ?_)
  · refine seqE ?_
    exact leafE hown hg
  · refine seqE ?_
    refine seqE ?_
    refine brW hg (fun hg h2 => ?_) (fun hg h2 => ?_)
    · refine seqE ?_
      exact leafE hown hg
    · refine seqE ?_
      refine seqE ?_
      refine brW hg (fun hg h3 => ?_) (fun hg h3 => ?_)
      · refine seqE ?_
        exact leafE hown hg
      · refine seqE ?_
        exact leafE hown hg
theorem rf_laws_eqTimer (x : Timer) : laws_eqTimer x x = true := by
  simp [laws_eqTimer]
def laws_eqTimerS_b1 (p1 : (List Timer)) (i1 : Nat) (s1 : Unit) (a1 : Timer) : Step (Unit) Bool :=
  (bif (!(laws_eqTimer a1 (p1[i1]?.getD default))) then (.done false) else (.next ()))
def laws_eqTimerS (p0 : (List Timer)) (p1 : (List Timer)) : Bool :=
  (bif ((((p0).length : Nat) : Int) != (((p1).length : Nat) : Int)) then false else (Fin.get (fun s1 => true) (loopL (laws_eqTimerS_b1 p1) 0 () p0)))
theorem c_laws_eqTimerS (p0 : (List Timer)) (p1 : (List Timer)) : FnOk prog 82 [.one (.s false 3 (List.map Timer.cells p0)), .one (.s false 3 (List.map Timer.cells p1))] ⟨.one (.v (.bool (laws_eqTimerS p0 p1))), [], [], false⟩ := by
  refine FnOk.intro (E := env) envOk wide func82 rfl (by kernel_rfl) rfl rfl ?_
  have hg := laws_eqTimerS.eq_1 p0 p1
  have hown : ∀ g : Bool, AV.Own (AV.one (.v (.bool g))) := fun g => .v _
  refine seqE ?_
  refine seqE ?_
  refine seqE ?_
  refine lenM fun hN1 => ?_
  refine lenM fun hN2 => ?_
  refine brW hg (fun hg h3 => ?_) (fun hg h3 => ?_)
  · refine seqE ?_
    exact leafE hown hg
  · refine seqE ?_
    refine seqE ?_
    refine loopLE hg [0, 1] (fun x1 => [(5, .one (.v (.int .i64 ((x1.i : Nat) : Int))))]) (fun x1 => []) [] ?_ (fun x1 => ?_)
    · exact ⟨rfl, ⟨rfl, rfl, rfl, trivial⟩, trivial, trivial⟩
    refine seqE ?_
    refine seqE ?_
    refine lenM fun hN4 => ?_
    refine tstL (fun hi1 => ?_) (fun hi1 => ?_)
    · have hb1 := (x1.bdy hi1).trans (laws_eqTimerS_b1.eq_1 ..)
      have hw1 := wrap_succ hi1 (by first | assumption | omega)
      refine seqE ?_
      refine seqE ?_
      refine .inl ⟨by kernel_rfl, ?_⟩
      refine idxAt hi1 ?_
      refine idxOf (l := p1) (by (first | omega | (simp (disch := omega) only [wrap_small, mid_eq, List.length_map]; omega) | (simp; done) | (simp; omega) | (simp at *; omega) | (simp at *; done) | (simp_all; done) | (simp_all; omega))) (fun hq5 => ?_)
      refine ⟨_, _, c_laws_eqTimer (p0[x1.i]'hi1) (p1[x1.i]?.getD default), (FzAs.same _), ?_⟩
      refine brE hb1 (fun hb1 h6 => ?_) (fun hb1 h6 => x1.goE hi1 hb1 [] ⟨rfl, ⟨(eqInt hw1), rfl, rfl, trivial⟩, trivial, trivial⟩)
      refine seqE ?_
      have hg := donE hg (x1.outD hi1 hb1)
      exact leafE hown hg
    have hg := finE hg (x1.fin hi1)
    refine seqE ?_
    exact leafE hown hg
theorem rf_laws_eqTimerS (x : (List Timer)) : laws_eqTimerS x x = true := eqS_ok (b := laws_eqTimerS_b1) rf_laws_eqTimer (fun _ _ _ _ => rfl) (fun _ _ => rfl) x
def laws_eqTimerSS_b1 (p1 : (List (List Timer))) (i1 : Nat) (s1 : Unit) (a1 : (List Timer)) : Step (Unit) Bool :=
  (bif (!(laws_eqTimerS a1 (p1[i1]?.getD default))) then (.done false) else (.next ()))
def laws_eqTimerSS (p0 : (List (List Timer))) (p1 : (List (List Timer))) : Bool :=
  (bif ((((p0).length : Nat) : Int) != (((p1).length : Nat) : Int)) then false else (Fin.get (fun s1 => true) (loopL (laws_eqTimerSS_b1 p1) 0 () p0)))
theorem c_laws_eqTimerSS (p0 : (List (List Timer))) (p1 : (List (List Timer))) : FnOk prog 132 [.one (.s false 1 (List.map (cSl false 3 Timer.cells) p0)), .one (.s false 1 (List.map (cSl false 3 Timer.cells) p1))] ⟨.one (.v (.bool (laws_eqTimerSS p0 p1))), [], [], false⟩ := by
  refine FnOk.intro (E := env) envOk wide func132 rfl (by kernel_rfl) rfl rfl ?_
  have hg := laws_eqTimerSS.eq_1 p0 p1
  have hown : ∀ g : Bool, AV.Own (AV.one (.v (.bool g))) := fun g => .v _
  refine seqE ?_
  refine seqE ?_
  refine seqE ?_
  refine lenM fun hN1 => ?_
  refine lenM fun hN2 => ?_
  refine brW hg (fun hg h3 => ?_) (fun hg h3 => ?_)
  · refine seqE ?_
    exact leafE hown hg
  · refine seqE ?_
    refine seqE ?_
    refine loopLE hg [0, 1] (fun x1 => [(5, .one (.v (.int .i64 ((x1.i : Nat) : Int))))]) (fun x1 => []) [] ?_ (fun x1 => ?_)
    · exact ⟨rfl, ⟨rfl, rfl, rfl, trivial⟩, trivial, trivial⟩
    refine seqE ?_
    refine seqE ?_
    refine lenM fun hN4 => ?_
    refine tstL (fun hi1 => ?_) (fun hi1 => ?_)
    · have hb1 := (x1.bdy hi1).trans (laws_eqTimerSS_b1.eq_1 ..)
      have hw1 := wrap_succ hi1 (by first | assumption | omega)
      refine seqE ?_
      refine seqE ?_
      refine .inl ⟨by kernel_rfl, ?_⟩
      refine idxAt hi1 ?_
      refine idxOf (l := p1) (by (first | omega | (simp (disch := omega) only [wrap_small, mid_eq, List.length_map]; omega) | (simp; done) | (simp; omega) | (simp at *; omega) | (simp at *; done) | (simp_all; done) | (simp_all; omega))) (fun hq5 => ?_)
      refine ⟨_, _, c_laws_eqTimerS (p0[x1.i]'hi1) (p1[x1.i]?.getD default), (FzAs.same _), ?_⟩
      refine brE hb1 (fun hb1 h6 => ?_) (fun hb1 h6 => x1.goE hi1 hb1 [] ⟨rfl, ⟨(eqInt hw1), rfl, rfl, trivial⟩, trivial, trivial⟩)
      refine seqE ?_
      have hg := donE hg (x1.outD hi1 hb1)
      exact leafE hown hg
    have hg := finE hg (x1.fin hi1)
    refine seqE ?_
    exact leafE hown hg
theorem rf_laws_eqTimerSS (x : (List (List Timer))) : laws_eqTimerSS x x = true := eqS_ok (b := laws_eqTimerSS_b1) rf_laws_eqTimerS (fun _ _ _ _ => rfl) (fun _ _ => rfl) x
def laws_eqWheel (p0 : Wheel) (p1 : Wheel) : Bool :=
  (bif (p0.Now != p1.Now) then false else (bif (!(laws_eqTimerSS p0.Near p1.Near)) then false else (bif (!(laws_eqTimerSS p0.Far p1.Far)) then false else (bif (!(laws_eqTimerS p0.Rest p1.Rest)) then false else true))))
theorem c_laws_eqWheel (p0 : Wheel) (p1 : Wheel) : FnOk prog 81 [.agg ((Wheel.cells false) p0), .agg ((Wheel.cells false) p1)] ⟨.one (.v (.bool (laws_eqWheel p0 p1))), [], [], false⟩ := by
  refine FnOk.intro (E := env) envOk wide func81 rfl (by kernel_rfl) rfl rfl ?_
  have hg := laws_eqWheel.eq_1 p0 p1
  have hown : ∀ g : Bool, AV.Own (AV.one (.v (.bool g))) := fun g => .v _
  refine seqE ?_
  refine litE (m := 0) rfl ?_
  refine litE (m := 1) rfl ?_
  refine seqE ?_
  refine seqE ?_
  refine brW hg (fun hg h1 => ?_) (fun hg h1 => ?_)
  · refine seqE ?_
    exact leafE hown hg
  · refine seqE ?_
    refine seqE ?_
    refine .inl (⟨_, _, c_laws_eqTimerSS p0.Near p1.Near, (FzAs.same _), ?_⟩)
    refine litE (m := 3) rfl ?_
    refine brE hg (fun hg h2 => ?_) (fun hg h2 => ?_)
    · refine seqE ?_
      exact leafE hown hg
    · refine seqE ?_
      refine seqE ?_
      refine .inl (⟨_, _, c_laws_eqTimerSS p0.Far p1.Far, (FzAs.same _), ?_⟩)
      refine litE (m := 4) rfl ?_
      refine brE hg (fun hg h3 => ?_) (fun hg h3 => ?_)
      · refine seqE ?_
        exact leafE hown hg
      · refine seqE ?_
        refine seqE ?_
        refine .inl (⟨_, _, c_laws_eqTimerS p0.Rest p1.Rest, (FzAs.same _), ?_⟩)
        refine litE (m := 5) rfl ?_
        refine brE hg (fun hg h4 => ?_) (fun hg h4 => ?_)
        · refine seqE ?_
          exact leafE hown hg
        · refine seqE ?_
          exact leafE hown hg
theorem rf_laws_eqWheel (x : Wheel) : laws_eqWheel x x = true := by
  simp [laws_eqWheel, rf_laws_eqTimerS, rf_laws_eqTimerSS]
def laws_eqItem (p0 : Item) (p1 : Item) : Bool :=
  (bif (p0.Stamp != p1.Stamp) then false else (bif (!(laws_eqSpan p0.S p1.S)) then false else true))
theorem c_laws_eqItem (p0 : Item) (p1 : Item) : FnOk prog 134 [.agg ((Item.cells false) p0), .agg ((Item.cells false) p1)] ⟨.one (.v (.bool (laws_eqItem p0 p1))), [], [], false⟩ := by
  refine FnOk.intro (E := env) envOk wide func134 rfl (by kernel_rfl) rfl rfl ?_
  have hg := laws_eqItem.eq_1 p0 p1
  have hown : ∀ g : Bool, AV.Own (AV.one (.v (.bool g))) := fun g => .v _
  refine seqE ?_
  refine litE (m := 0) rfl ?_
  refine litE (m := 1) rfl ?_
  refine seqE ?_
  refine seqE ?_
  refine brW hg (fun hg h1 => ?_) (fun hg h1 => ?_)
  · refine seqE ?_
    exact leafE hown hg
  · refine seqE ?_
    refine seqE ?_
    refine .inl (⟨_, _, c_laws_eqSpan p0.S p1.S, (FzAs.same _), ?_⟩)
    refine litE (m := 3) rfl ?_
    refine brE hg (fun hg h2 => ?_) (fun hg h2 => ?_)
    · refine seqE ?_
      exact leafE hown hg
    · refine seqE ?_
      exact leafE hown hg
theorem rf_laws_eqItem (x : Item) : laws_eqItem x x = true := by
  simp [laws_eqItem, rf_laws_eqSpan]
def laws_eqItemS_b1 (p1 : (List Item)) (i1 : Nat) (s1 : Unit) (a1 : Item) : Step (Unit) Bool :=
  (bif (!(laws_eqItem a1 (p1[i1]?.getD default))) then (.done false) else (.next ()))
def laws_eqItemS (p0 : (List Item)) (p1 : (List Item)) : Bool :=
  (bif ((((p0).length : Nat) : Int) != (((p1).length : Nat) : Int)) then false else (Fin.get (fun s1 => true) (loopL (laws_eqItemS_b1 p1) 0 () p0)))
theorem c_laws_eqItemS (p0 : (List Item)) (p1 : (List Item)) : FnOk prog 83 [.one (.s false 7 (List.map (Item.cells false) p0)), .one (.s false 7 (List.map (Item.cells false) p1))] ⟨.one (.v (.bool (laws_eqItemS p0 p1))), [], [], false⟩ := by
  refine FnOk.intro (E := env) envOk wide func83 rfl (by kernel_rfl) rfl rfl ?_
  have hg := laws_eqItemS.eq_1 p0 p1
  have hown : ∀ g : Bool, AV.Own (AV.one (.v (.bool g))) := fun g => .v _
  refine seqE ?_
  refine seqE ?_
  refine seqE ?_
  refine lenM fun hN1 => ?_
  refine lenM fun hN2 => ?_
  refine brW hg (fun hg h3 => ?_) (fun hg h3 => ?_)
  · refine seqE ?_
    exact leafE hown hg
  · refine seqE ?_
    refine seqE ?_
    refine loopLE hg [0, 1] (fun x1 => [(5, .one (.v (.int .i64 ((x1.i : Nat) : Int))))]) (fun x1 => []) [] ?_ (fun x1 => ?_)
    · exact ⟨rfl, ⟨rfl, rfl, rfl, trivial⟩, trivial, trivial⟩
    refine seqE ?_
    refine seqE ?_
    refine lenM fun hN4 => ?_
    refine tstL (fun hi1 => ?_) (fun hi1 => ?_)
    · have hb1 := (x1.bdy hi1).trans (laws_eqItemS_b1.eq_1 ..)
      have hw1 := wrap_succ hi1 (by first | assumption | omega)
      refine seqE ?_
      refine seqE ?_
      refine .inl ⟨by kernel_rfl, ?_⟩
      refine idxAt hi1 ?_
      refine idxOf (l := p1) (by (first | omega | (simp (disch := omega) only [wrap_small, mid_eq, List.length_map]; omega) | (simp; done) | (simp; omega) | (simp at *; omega) | (simp at *; done) | (simp_all; done) | (simp_all; omega))) (fun hq5 => ?_)
      refine ⟨_, _, c_laws_eqItem (p0[x1.i]'hi1) (p1[x1.i]?.getD default), (FzAs.same _), ?_⟩
      refine brE hb1 (fun hb1 h6 => ?_) (fun hb1 h6 => x1.goE hi1 hb1 [] ⟨rfl, ⟨(eqInt hw1), rfl, rfl, trivial⟩, trivial, trivial⟩)
      refine seqE ?_
      have hg := donE hg (x1.outD hi1 hb1)
      exact leafE hown hg
    have hg := finE hg (x1.fin hi1)
    refine seqE ?_
    exact leafE hown hg
theorem rf_laws_eqItemS (x : (List Item)) : laws_eqItemS x x = true := eqS_ok (b := laws_eqItemS_b1) rf_laws_eqItem (fun _ _ _ _ => rfl) (fun _ _ => rfl) x
def laws_eqTask (p0 : Task) (p1 : Task) : Bool :=
  (bif (p0.Op != p1.Op) then false else (bif (p0.Pc != p1.Pc) then false else (bif (!(laws_eqSpan p0.S p1.S)) then false else (bif (p0.Trace != p1.Trace) then false else (bif (p0.Stamp != p1.Stamp) then false else (bif (!(laws_eqItemS p0.Hand p1.Hand)) then false else (bif (p0.H != p1.H) then false else true)))))))
end Go.Proofs.Try.Ev
