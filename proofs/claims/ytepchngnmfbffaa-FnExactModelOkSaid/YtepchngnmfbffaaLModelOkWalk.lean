import Derived.Test.YtepchngnmfbffaaLTabsW
import Derived.Test.YtepchngnmfbffaaEvZ
set_option linter.unusedSectionVars false
namespace Go.Proofs.Try.Ev
open Go Go.Ev Go.Proofs
set_option maxHeartbeats 4000000
set_option maxRecDepth 100000
set_option linter.unusedSimpArgs false
set_option linter.unusedVariables false
structure Pol where
  Kind : Int
  N : Int
  Key : ByteArray
  Text : ByteArray
  L : (List Pol)
instance : Inhabited Pol := ⟨⟨0, 0, ByteArray.empty, ByteArray.empty, []⟩⟩
mutual
def Pol.dep : Pol → Nat
  | ⟨y0, y1, y2, y3, y4⟩ => Pol.depL y4 + 1
def Pol.depL : List Pol → Nat
  | [] => 0
  | p :: l => max (Pol.dep p) (Pol.depL l)
end
theorem Pol.depL_mem : ∀ {l : List Pol} {x : Pol}, x ∈ l → Pol.dep x ≤ Pol.depL l
  | p :: l, x, h => by
    simp only [Pol.depL]
    rcases List.mem_cons.1 h with rfl | h
    · omega
    · have := Pol.depL_mem h
      omega
theorem Pol.dep_lt {x y : Pol} (h : x ∈ y.L) : Pol.dep x < Pol.dep y := by
  obtain ⟨y0, y1, y2, y3, y4⟩ := y
  have := Pol.depL_mem (l := y4) h
  simp only [Pol.dep]
  omega
mutual
def Pol.cells (o : Bool) : Pol → List T
  | ⟨y0, y1, y2, y3, y4⟩ => [.v (.int .i64 y0), .v (.int .i64 y1), .v (.string y2), .v (.string y3), .s o 5 (Pol.cellsL o y4)]
def Pol.cellsL (o : Bool) : List Pol → List (List T)
  | [] => []
  | p :: l => Pol.cells o p :: Pol.cellsL o l
end
theorem Pol.cellsL_eq (o : Bool) : ∀ l : List Pol, Pol.cellsL o l = List.map (Pol.cells o) l
  | [] => rfl
  | p :: l => by simp only [Pol.cellsL, List.map_cons, Pol.cellsL_eq o l]
def Pol.opn (o : Bool) (x : Pol) : List T := [.v (.int .i64 x.Kind), .v (.int .i64 x.N), .v (.string x.Key), .v (.string x.Text), .s o 5 (List.map (Pol.cells o) x.L)]
theorem Pol.cells_eq (o : Bool) (x : Pol) : Pol.cells o x = Pol.opn o x := by
  obtain ⟨y0, y1, y2, y3, y4⟩ := x
  simp only [Pol.cells, Pol.opn, Pol.cellsL_eq]
theorem own_Pol (x : Pol) : OwnL (Pol.cells true x) := by
  rw [Pol.cells_eq]
  exact ⟨.v _, .v _, .v _, .v _, ownSlM (fun x hx => own_Pol x), trivial⟩
termination_by Pol.dep x
decreasing_by exact Pol.dep_lt hx
theorem ownO_Pol (x : Pol) : OwnL (Pol.opn true x) := by
  rw [← Pol.cells_eq]; exact own_Pol x
theorem frz_Pol {o : Bool} (x : Pol) : frzL (Pol.cells o x) = Pol.cells false x := by
  rw [Pol.cells_eq, Pol.cells_eq]
  show [T.v (.int .i64 x.Kind), T.v (.int .i64 x.N), T.v (.string x.Key), T.v (.string x.Text), T.s false 5 (frzLL (List.map (Pol.cells o) x.L))] = _
  rw [frzMapM (f := Pol.cells o) (g := Pol.cells false) (fun y hy => frz_Pol y)]
  rfl
termination_by Pol.dep x
decreasing_by exact Pol.dep_lt hy
theorem frzO_Pol {o : Bool} (x : Pol) : frzL (Pol.opn o x) = Pol.opn false x := by
  rw [← Pol.cells_eq, ← Pol.cells_eq]; exact frz_Pol x
theorem fz_Pol {o : Bool} (x : Pol) : (Pol.cells o x).map T.fz = Pol.cells false x := by
  rw [Pol.cells_eq, Pol.cells_eq]
  show [T.v (.int .i64 x.Kind), T.v (.int .i64 x.N), T.v (.string x.Key), T.v (.string x.Text), T.s false 5 (frzLL (List.map (Pol.cells o) x.L))] = _
  rw [frzMap (f := Pol.cells o) (g := Pol.cells false) frz_Pol]
  rfl
mutual
def Pol.bd (M : Nat) : Pol → Prop
  | ⟨y0, y1, y2, y3, y4⟩ => y2.size ≤ M ∧ y3.size ≤ M ∧ (y4.length ≤ M ∧ Pol.bdL M y4)
def Pol.bdL (M : Nat) : List Pol → Prop
  | [] => True
  | p :: l => Pol.bd M p ∧ Pol.bdL M l
end
theorem Pol.bdL_iff {M : Nat} : ∀ {l : List Pol}, Pol.bdL M l ↔ ∀ x ∈ l, Pol.bd M x
  | [] => by simp [Pol.bdL]
  | p :: l => by simp [Pol.bdL, Pol.bdL_iff (l := l)]
theorem Pol.bd_eq {M : Nat} {x : Pol} : Pol.bd M x ↔ x.Key.size ≤ M ∧ x.Text.size ≤ M ∧ bdS Pol.bd M x.L := by
  obtain ⟨y0, y1, y2, y3, y4⟩ := x
  simp only [Pol.bd, bdS, Pol.bdL_iff]
structure Conf where
  Stripes : Int
  Wait : Int
  Budget : Int
  Cache : Int
  Queue : Int
  Rate : Int
  Burst : Int
  Rule : Pol
deriving Inhabited
def Conf.cells (o : Bool) (x : Conf) : List T := [.v (.int .i64 x.Stripes), .v (.int .i64 x.Wait), .v (.int .i64 x.Budget), .v (.int .i64 x.Cache), .v (.int .i64 x.Queue), .v (.int .i64 x.Rate), .v (.int .i64 x.Burst), .v (.int .i64 x.Rule.Kind), .v (.int .i64 x.Rule.N), .v (.string x.Rule.Key), .v (.string x.Rule.Text), .s o 5 (List.map (Pol.cells o) x.Rule.L)]
theorem own_Conf (x : Conf) : OwnL (Conf.cells true x) := ⟨.v _, .v _, .v _, .v _, .v _, .v _, .v _, .v _, .v _, .v _, .v _, ownSl own_Pol _, trivial⟩
theorem frz_Conf {o : Bool} (x : Conf) : frzL (Conf.cells o x) = Conf.cells false x := by
  show [T.v (.int .i64 x.Stripes), T.v (.int .i64 x.Wait), T.v (.int .i64 x.Budget), T.v (.int .i64 x.Cache), T.v (.int .i64 x.Queue), T.v (.int .i64 x.Rate), T.v (.int .i64 x.Burst), T.v (.int .i64 x.Rule.Kind), T.v (.int .i64 x.Rule.N), T.v (.string x.Rule.Key), T.v (.string x.Rule.Text), T.s false 5 (frzLL (List.map (Pol.cells o) x.Rule.L))] = _
  rw [frzMap (f := (Pol.cells o)) (g := (Pol.cells false)) frz_Pol x.Rule.L]
  rfl
theorem fz_Conf {o : Bool} (x : Conf) : (Conf.cells o x).map T.fz = Conf.cells false x := by
  show [T.v (.int .i64 x.Stripes), T.v (.int .i64 x.Wait), T.v (.int .i64 x.Budget), T.v (.int .i64 x.Cache), T.v (.int .i64 x.Queue), T.v (.int .i64 x.Rate), T.v (.int .i64 x.Burst), T.v (.int .i64 x.Rule.Kind), T.v (.int .i64 x.Rule.N), T.v (.string x.Rule.Key), T.v (.string x.Rule.Text), T.s false 5 (frzLL (List.map (Pol.cells o) x.Rule.L))] = _
  rw [frzMap (f := (Pol.cells o)) (g := (Pol.cells false)) frz_Pol x.Rule.L]
  rfl
def Conf.bd (M : Nat) (x : Conf) : Prop := Pol.bd M x.Rule
def Conf.rg (x : Conf) : Prop := I64 x.Stripes ∧ I64 x.Wait ∧ I64 x.Budget ∧ I64 x.Cache ∧ I64 x.Queue ∧ I64 x.Rate ∧ I64 x.Burst ∧ I64 x.Rule.Kind ∧ I64 x.Rule.N ∧ (x.Rule.Key).size ≤ 9223372036854775807 ∧ (x.Rule.Text).size ≤ 9223372036854775807 ∧ ((x.Rule.L).length ≤ 9223372036854775807 ∧ ∀ y ∈ x.Rule.L, True) ∧ True
theorem rg_Conf {o : Bool} {x : Conf} (h : fitL (Conf.cells o x)) : Conf.rg x := ⟨(range_of_fit h.1), (range_of_fit h.2.1), (range_of_fit h.2.2.1), (range_of_fit h.2.2.2.1), (range_of_fit h.2.2.2.2.1), (range_of_fit h.2.2.2.2.2.1), (range_of_fit h.2.2.2.2.2.2.1), (range_of_fit h.2.2.2.2.2.2.2.1), (range_of_fit h.2.2.2.2.2.2.2.2.1), (Nat.le_of_ble_eq_true h.2.2.2.2.2.2.2.2.2.1), (Nat.le_of_ble_eq_true h.2.2.2.2.2.2.2.2.2.2.1), ⟨by simpa using h.2.2.2.2.2.2.2.2.2.2.2.1.1, fun y0 hy0 => trivial⟩, trivial⟩
theorem Conf.rg.Stripes {x : Conf} (h : Conf.rg x) : I64 x.Stripes := h.1
theorem Conf.rg.Wait {x : Conf} (h : Conf.rg x) : I64 x.Wait := h.2.1
theorem Conf.rg.Budget {x : Conf} (h : Conf.rg x) : I64 x.Budget := h.2.2.1
theorem Conf.rg.Cache {x : Conf} (h : Conf.rg x) : I64 x.Cache := h.2.2.2.1
theorem Conf.rg.Queue {x : Conf} (h : Conf.rg x) : I64 x.Queue := h.2.2.2.2.1
theorem Conf.rg.Rate {x : Conf} (h : Conf.rg x) : I64 x.Rate := h.2.2.2.2.2.1
theorem Conf.rg.Burst {x : Conf} (h : Conf.rg x) : I64 x.Burst := h.2.2.2.2.2.2.1
structure Attr where
  Key : ByteArray
  Num : Bool
  N : Int
  Text : ByteArray
deriving DecidableEq, Inhabited
def Attr.cells (x : Attr) : List T := [.v (.string x.Key), .v (.bool x.Num), .v (.int .i64 x.N), .v (.string x.Text)]
theorem own_Attr (x : Attr) : OwnL (Attr.cells x) := ⟨.v _, .v _, .v _, .v _, trivial⟩
theorem frz_Attr (x : Attr) : frzL (Attr.cells x) = Attr.cells x := rfl
theorem fz_Attr (x : Attr) : (Attr.cells x).map T.fz = Attr.cells x := rfl
theorem fl_Attr (x : Attr) : (Attr.cells x).map T.flat = Attr.cells x := rfl
def Attr.bd (M : Nat) (x : Attr) : Prop := x.Key.size ≤ M ∧ x.Text.size ≤ M
def Attr.rg (x : Attr) : Prop := (x.Key).size ≤ 9223372036854775807 ∧ True ∧ I64 x.N ∧ (x.Text).size ≤ 9223372036854775807 ∧ True
theorem rg_Attr {x : Attr} (h : fitL (Attr.cells x)) : Attr.rg x := ⟨(Nat.le_of_ble_eq_true h.1), trivial, (range_of_fit h.2.2.1), (Nat.le_of_ble_eq_true h.2.2.2.1), trivial⟩
theorem Attr.rg.Key {x : Attr} (h : Attr.rg x) : (x.Key).size ≤ 9223372036854775807 := h.1
theorem Attr.rg.N {x : Attr} (h : Attr.rg x) : I64 x.N := h.2.2.1
theorem Attr.rg.Text {x : Attr} (h : Attr.rg x) : (x.Text).size ≤ 9223372036854775807 := h.2.2.2.1
structure Span where
  Trace : Int
  Id : Int
  Start : Int
  End : Int
  Err : Bool
  Attrs : (List Attr)
deriving DecidableEq, Inhabited
def Span.cells (o : Bool) (x : Span) : List T := [.v (.int .i64 x.Trace), .v (.int .i64 x.Id), .v (.int .i64 x.Start), .v (.int .i64 x.End), .v (.bool x.Err), .s o 4 (List.map Attr.cells x.Attrs)]
theorem own_Span (x : Span) : OwnL (Span.cells true x) := ⟨.v _, .v _, .v _, .v _, .v _, ownSl own_Attr _, trivial⟩
theorem frz_Span {o : Bool} (x : Span) : frzL (Span.cells o x) = Span.cells false x := by
  show [T.v (.int .i64 x.Trace), T.v (.int .i64 x.Id), T.v (.int .i64 x.Start), T.v (.int .i64 x.End), T.v (.bool x.Err), T.s false 4 (frzLL (List.map Attr.cells x.Attrs))] = _
  rw [frzMap (f := Attr.cells) (g := Attr.cells) frz_Attr x.Attrs]
  rfl
theorem fz_Span {o : Bool} (x : Span) : (Span.cells o x).map T.fz = Span.cells false x := by
  show [T.v (.int .i64 x.Trace), T.v (.int .i64 x.Id), T.v (.int .i64 x.Start), T.v (.int .i64 x.End), T.v (.bool x.Err), T.s false 4 (frzLL (List.map Attr.cells x.Attrs))] = _
  rw [frzMap (f := Attr.cells) (g := Attr.cells) frz_Attr x.Attrs]
  rfl
def Span.bd (M : Nat) (x : Span) : Prop := bdS Attr.bd M x.Attrs
def Span.rg (x : Span) : Prop := I64 x.Trace ∧ I64 x.Id ∧ I64 x.Start ∧ I64 x.End ∧ True ∧ ((x.Attrs).length ≤ 9223372036854775807 ∧ ∀ y ∈ x.Attrs, Attr.rg y) ∧ True
theorem rg_Span {o : Bool} {x : Span} (h : fitL (Span.cells o x)) : Span.rg x := ⟨(range_of_fit h.1), (range_of_fit h.2.1), (range_of_fit h.2.2.1), (range_of_fit h.2.2.2.1), trivial, ⟨by simpa using h.2.2.2.2.2.1.1, fun y0 hy0 => (rg_Attr (fitLL_map h.2.2.2.2.2.1.2 y0 hy0))⟩, trivial⟩
theorem Span.rg.Trace {x : Span} (h : Span.rg x) : I64 x.Trace := h.1
theorem Span.rg.Id {x : Span} (h : Span.rg x) : I64 x.Id := h.2.1
theorem Span.rg.Start {x : Span} (h : Span.rg x) : I64 x.Start := h.2.2.1
theorem Span.rg.End {x : Span} (h : Span.rg x) : I64 x.End := h.2.2.2.1
theorem Span.rg.Attrs {x : Span} (h : Span.rg x) : ((x.Attrs).length ≤ 9223372036854775807 ∧ ∀ y ∈ x.Attrs, Attr.rg y) := h.2.2.2.2.2.1
structure Trail where
  Id : Int
  Stamp : Int
  First : Int
  Spans : (List Span)
deriving DecidableEq, Inhabited
def Trail.cells (o : Bool) (x : Trail) : List T := [.v (.int .i64 x.Id), .v (.int .i64 x.Stamp), .v (.int .i64 x.First), .s o 6 (List.map (Span.cells o) x.Spans)]
theorem own_Trail (x : Trail) : OwnL (Trail.cells true x) := ⟨.v _, .v _, .v _, ownSl own_Span _, trivial⟩
theorem frz_Trail {o : Bool} (x : Trail) : frzL (Trail.cells o x) = Trail.cells false x := by
  show [T.v (.int .i64 x.Id), T.v (.int .i64 x.Stamp), T.v (.int .i64 x.First), T.s false 6 (frzLL (List.map (Span.cells o) x.Spans))] = _
  rw [frzMap (f := (Span.cells o)) (g := (Span.cells false)) frz_Span x.Spans]
  rfl
theorem fz_Trail {o : Bool} (x : Trail) : (Trail.cells o x).map T.fz = Trail.cells false x := by
  show [T.v (.int .i64 x.Id), T.v (.int .i64 x.Stamp), T.v (.int .i64 x.First), T.s false 6 (frzLL (List.map (Span.cells o) x.Spans))] = _
  rw [frzMap (f := (Span.cells o)) (g := (Span.cells false)) frz_Span x.Spans]
  rfl
def Trail.bd (M : Nat) (x : Trail) : Prop := bdS Span.bd M x.Spans
def Trail.rg (x : Trail) : Prop := I64 x.Id ∧ I64 x.Stamp ∧ I64 x.First ∧ ((x.Spans).length ≤ 9223372036854775807 ∧ ∀ y ∈ x.Spans, Span.rg y) ∧ True
theorem rg_Trail {o : Bool} {x : Trail} (h : fitL (Trail.cells o x)) : Trail.rg x := ⟨(range_of_fit h.1), (range_of_fit h.2.1), (range_of_fit h.2.2.1), ⟨by simpa using h.2.2.2.1.1, fun y0 hy0 => (rg_Span (fitLL_map h.2.2.2.1.2 y0 hy0))⟩, trivial⟩
theorem Trail.rg.Id {x : Trail} (h : Trail.rg x) : I64 x.Id := h.1
theorem Trail.rg.Stamp {x : Trail} (h : Trail.rg x) : I64 x.Stamp := h.2.1
theorem Trail.rg.First {x : Trail} (h : Trail.rg x) : I64 x.First := h.2.2.1
theorem Trail.rg.Spans {x : Trail} (h : Trail.rg x) : ((x.Spans).length ≤ 9223372036854775807 ∧ ∀ y ∈ x.Spans, Span.rg y) := h.2.2.2.1
structure Verdict where
  Trace : Int
  Stamp : Int
  Keep : Bool
deriving DecidableEq, Inhabited
def Verdict.cells (x : Verdict) : List T := [.v (.int .i64 x.Trace), .v (.int .i64 x.Stamp), .v (.bool x.Keep)]
theorem own_Verdict (x : Verdict) : OwnL (Verdict.cells x) := ⟨.v _, .v _, .v _, trivial⟩
theorem frz_Verdict (x : Verdict) : frzL (Verdict.cells x) = Verdict.cells x := rfl
theorem fz_Verdict (x : Verdict) : (Verdict.cells x).map T.fz = Verdict.cells x := rfl
theorem fl_Verdict (x : Verdict) : (Verdict.cells x).map T.flat = Verdict.cells x := rfl
def Verdict.bd (M : Nat) (x : Verdict) : Prop := True
def Verdict.rg (x : Verdict) : Prop := I64 x.Trace ∧ I64 x.Stamp ∧ True ∧ True
theorem rg_Verdict {x : Verdict} (h : fitL (Verdict.cells x)) : Verdict.rg x := ⟨(range_of_fit h.1), (range_of_fit h.2.1), trivial, trivial⟩
theorem Verdict.rg.Trace {x : Verdict} (h : Verdict.rg x) : I64 x.Trace := h.1
theorem Verdict.rg.Stamp {x : Verdict} (h : Verdict.rg x) : I64 x.Stamp := h.2.1
structure Bucket where
  Rate : Int
  Burst : Int
  Tokens : Int
  At : Int
deriving DecidableEq, Inhabited
def Bucket.cells (x : Bucket) : List T := [.v (.int .i64 x.Rate), .v (.int .i64 x.Burst), .v (.int .i64 x.Tokens), .v (.int .i64 x.At)]
theorem own_Bucket (x : Bucket) : OwnL (Bucket.cells x) := ⟨.v _, .v _, .v _, .v _, trivial⟩
theorem frz_Bucket (x : Bucket) : frzL (Bucket.cells x) = Bucket.cells x := rfl
theorem fz_Bucket (x : Bucket) : (Bucket.cells x).map T.fz = Bucket.cells x := rfl
theorem fl_Bucket (x : Bucket) : (Bucket.cells x).map T.flat = Bucket.cells x := rfl
def Bucket.bd (M : Nat) (x : Bucket) : Prop := True
def Bucket.rg (x : Bucket) : Prop := I64 x.Rate ∧ I64 x.Burst ∧ I64 x.Tokens ∧ I64 x.At ∧ True
theorem rg_Bucket {x : Bucket} (h : fitL (Bucket.cells x)) : Bucket.rg x := ⟨(range_of_fit h.1), (range_of_fit h.2.1), (range_of_fit h.2.2.1), (range_of_fit h.2.2.2.1), trivial⟩
theorem Bucket.rg.Rate {x : Bucket} (h : Bucket.rg x) : I64 x.Rate := h.1
theorem Bucket.rg.Burst {x : Bucket} (h : Bucket.rg x) : I64 x.Burst := h.2.1
theorem Bucket.rg.Tokens {x : Bucket} (h : Bucket.rg x) : I64 x.Tokens := h.2.2.1
theorem Bucket.rg.At {x : Bucket} (h : Bucket.rg x) : I64 x.At := h.2.2.2.1
structure Model where
  C : Conf
  Shut : Bool
  Open : (List Trail)
  Cache : (List Verdict)
  B : Bucket
  Used : Int
deriving Inhabited
def Model.cells (o : Bool) (x : Model) : List T := [.v (.int .i64 x.C.Stripes), .v (.int .i64 x.C.Wait), .v (.int .i64 x.C.Budget), .v (.int .i64 x.C.Cache), .v (.int .i64 x.C.Queue), .v (.int .i64 x.C.Rate), .v (.int .i64 x.C.Burst), .v (.int .i64 x.C.Rule.Kind), .v (.int .i64 x.C.Rule.N), .v (.string x.C.Rule.Key), .v (.string x.C.Rule.Text), .s o 5 (List.map (Pol.cells o) x.C.Rule.L), .v (.bool x.Shut), .s o 4 (List.map (Trail.cells o) x.Open), .s o 3 (List.map Verdict.cells x.Cache), .v (.int .i64 x.B.Rate), .v (.int .i64 x.B.Burst), .v (.int .i64 x.B.Tokens), .v (.int .i64 x.B.At), .v (.int .i64 x.Used)]
theorem own_Model (x : Model) : OwnL (Model.cells true x) := ⟨.v _, .v _, .v _, .v _, .v _, .v _, .v _, .v _, .v _, .v _, .v _, ownSl own_Pol _, .v _, ownSl own_Trail _, ownSl own_Verdict _, .v _, .v _, .v _, .v _, .v _, trivial⟩
theorem frz_Model {o : Bool} (x : Model) : frzL (Model.cells o x) = Model.cells false x := by
  show [T.v (.int .i64 x.C.Stripes), T.v (.int .i64 x.C.Wait), T.v (.int .i64 x.C.Budget), T.v (.int .i64 x.C.Cache), T.v (.int .i64 x.C.Queue), T.v (.int .i64 x.C.Rate), T.v (.int .i64 x.C.Burst), T.v (.int .i64 x.C.Rule.Kind), T.v (.int .i64 x.C.Rule.N), T.v (.string x.C.Rule.Key), T.v (.string x.C.Rule.Text), T.s false 5 (frzLL (List.map (Pol.cells o) x.C.Rule.L)), T.v (.bool x.Shut), T.s false 4 (frzLL (List.map (Trail.cells o) x.Open)), T.s false 3 (frzLL (List.map Verdict.cells x.Cache)), T.v (.int .i64 x.B.Rate), T.v (.int .i64 x.B.Burst), T.v (.int .i64 x.B.Tokens), T.v (.int .i64 x.B.At), T.v (.int .i64 x.Used)] = _
  rw [frzMap (f := (Pol.cells o)) (g := (Pol.cells false)) frz_Pol x.C.Rule.L]
  rw [frzMap (f := (Trail.cells o)) (g := (Trail.cells false)) frz_Trail x.Open]
  rw [frzMap (f := Verdict.cells) (g := Verdict.cells) frz_Verdict x.Cache]
  rfl
theorem fz_Model {o : Bool} (x : Model) : (Model.cells o x).map T.fz = Model.cells false x := by
  show [T.v (.int .i64 x.C.Stripes), T.v (.int .i64 x.C.Wait), T.v (.int .i64 x.C.Budget), T.v (.int .i64 x.C.Cache), T.v (.int .i64 x.C.Queue), T.v (.int .i64 x.C.Rate), T.v (.int .i64 x.C.Burst), T.v (.int .i64 x.C.Rule.Kind), T.v (.int .i64 x.C.Rule.N), T.v (.string x.C.Rule.Key), T.v (.string x.C.Rule.Text), T.s false 5 (frzLL (List.map (Pol.cells o) x.C.Rule.L)), T.v (.bool x.Shut), T.s false 4 (frzLL (List.map (Trail.cells o) x.Open)), T.s false 3 (frzLL (List.map Verdict.cells x.Cache)), T.v (.int .i64 x.B.Rate), T.v (.int .i64 x.B.Burst), T.v (.int .i64 x.B.Tokens), T.v (.int .i64 x.B.At), T.v (.int .i64 x.Used)] = _
  rw [frzMap (f := (Pol.cells o)) (g := (Pol.cells false)) frz_Pol x.C.Rule.L]
  rw [frzMap (f := (Trail.cells o)) (g := (Trail.cells false)) frz_Trail x.Open]
  rw [frzMap (f := Verdict.cells) (g := Verdict.cells) frz_Verdict x.Cache]
  rfl
def Model.bd (M : Nat) (x : Model) : Prop := Conf.bd M x.C ∧ bdS Trail.bd M x.Open ∧ bdS Verdict.bd M x.Cache
def Model.rg (x : Model) : Prop := I64 x.C.Stripes ∧ I64 x.C.Wait ∧ I64 x.C.Budget ∧ I64 x.C.Cache ∧ I64 x.C.Queue ∧ I64 x.C.Rate ∧ I64 x.C.Burst ∧ I64 x.C.Rule.Kind ∧ I64 x.C.Rule.N ∧ (x.C.Rule.Key).size ≤ 9223372036854775807 ∧ (x.C.Rule.Text).size ≤ 9223372036854775807 ∧ ((x.C.Rule.L).length ≤ 9223372036854775807 ∧ ∀ y ∈ x.C.Rule.L, True) ∧ True ∧ ((x.Open).length ≤ 9223372036854775807 ∧ ∀ y ∈ x.Open, Trail.rg y) ∧ ((x.Cache).length ≤ 9223372036854775807 ∧ ∀ y ∈ x.Cache, Verdict.rg y) ∧ I64 x.B.Rate ∧ I64 x.B.Burst ∧ I64 x.B.Tokens ∧ I64 x.B.At ∧ I64 x.Used ∧ True
theorem rg_Model {o : Bool} {x : Model} (h : fitL (Model.cells o x)) : Model.rg x := ⟨(range_of_fit h.1), (range_of_fit h.2.1), (range_of_fit h.2.2.1), (range_of_fit h.2.2.2.1), (range_of_fit h.2.2.2.2.1), (range_of_fit h.2.2.2.2.2.1), (range_of_fit h.2.2.2.2.2.2.1), (range_of_fit h.2.2.2.2.2.2.2.1), (range_of_fit h.2.2.2.2.2.2.2.2.1), (Nat.le_of_ble_eq_true h.2.2.2.2.2.2.2.2.2.1), (Nat.le_of_ble_eq_true h.2.2.2.2.2.2.2.2.2.2.1), ⟨by simpa using h.2.2.2.2.2.2.2.2.2.2.2.1.1, fun y0 hy0 => trivial⟩, trivial, ⟨by simpa using h.2.2.2.2.2.2.2.2.2.2.2.2.2.1.1, fun y0 hy0 => (rg_Trail (fitLL_map h.2.2.2.2.2.2.2.2.2.2.2.2.2.1.2 y0 hy0))⟩, ⟨by simpa using h.2.2.2.2.2.2.2.2.2.2.2.2.2.2.1.1, fun y0 hy0 => (rg_Verdict (fitLL_map h.2.2.2.2.2.2.2.2.2.2.2.2.2.2.1.2 y0 hy0))⟩, (range_of_fit h.2.2.2.2.2.2.2.2.2.2.2.2.2.2.2.1), (range_of_fit h.2.2.2.2.2.2.2.2.2.2.2.2.2.2.2.2.1), (range_of_fit h.2.2.2.2.2.2.2.2.2.2.2.2.2.2.2.2.2.1), (range_of_fit h.2.2.2.2.2.2.2.2.2.2.2.2.2.2.2.2.2.2.1), (range_of_fit h.2.2.2.2.2.2.2.2.2.2.2.2.2.2.2.2.2.2.2.1), trivial⟩
theorem Model.rg.C {x : Model} (h : Model.rg x) : Conf.rg x.C := ⟨h.1, h.2.1, h.2.2.1, h.2.2.2.1, h.2.2.2.2.1, h.2.2.2.2.2.1, h.2.2.2.2.2.2.1, h.2.2.2.2.2.2.2.1, h.2.2.2.2.2.2.2.2.1, h.2.2.2.2.2.2.2.2.2.1, h.2.2.2.2.2.2.2.2.2.2.1, h.2.2.2.2.2.2.2.2.2.2.2.1, trivial⟩
theorem Model.rg.Open {x : Model} (h : Model.rg x) : ((x.Open).length ≤ 9223372036854775807 ∧ ∀ y ∈ x.Open, Trail.rg y) := h.2.2.2.2.2.2.2.2.2.2.2.2.2.1
theorem Model.rg.Cache {x : Model} (h : Model.rg x) : ((x.Cache).length ≤ 9223372036854775807 ∧ ∀ y ∈ x.Cache, Verdict.rg y) := h.2.2.2.2.2.2.2.2.2.2.2.2.2.2.1
theorem Model.rg.B {x : Model} (h : Model.rg x) : Bucket.rg x.B := ⟨h.2.2.2.2.2.2.2.2.2.2.2.2.2.2.2.1, h.2.2.2.2.2.2.2.2.2.2.2.2.2.2.2.2.1, h.2.2.2.2.2.2.2.2.2.2.2.2.2.2.2.2.2.1, h.2.2.2.2.2.2.2.2.2.2.2.2.2.2.2.2.2.2.1, trivial⟩
theorem Model.rg.Used {x : Model} (h : Model.rg x) : I64 x.Used := h.2.2.2.2.2.2.2.2.2.2.2.2.2.2.2.2.2.2.2.1
theorem wrapD (n : Int) : IntKind.i64.wrap n = if 9223372036854775808 ≤ n % 18446744073709551616 then n % 18446744073709551616 - 18446744073709551616 else n % 18446744073709551616 := by
  simp [IntKind.wrap, IntKind.bits, IntKind.signed]
theorem wrap_wrap_add (a b : Int) : IntKind.i64.wrap (IntKind.i64.wrap a + b) = IntKind.i64.wrap (a + b) := by
  rw [wrapD, wrapD, wrapD]
  split <;> split <;> split <;> omega
theorem wrap_add_wrap (a b : Int) : IntKind.i64.wrap (a + IntKind.i64.wrap b) = IntKind.i64.wrap (a + b) := by
  rw [Int.add_comm, wrap_wrap_add, Int.add_comm]
theorem wrap_idem (a : Int) : IntKind.i64.wrap (IntKind.i64.wrap a) = IntKind.i64.wrap a := by
  have := wrap_wrap_add a 0
  simpa using this
def isum {α : Type} (f : α → Int) : List α → Int
  | [] => 0
  | a :: l => f a + isum f l
theorem isum_append {α : Type} (f : α → Int) : ∀ (l m : List α), isum f (l ++ m) = isum f l + isum f m
  | [], m => by simp [isum]
  | a :: l, m => by simp only [List.cons_append, isum, isum_append f l m]; omega
theorem isum_flat {α β : Type} (f : β → Int) (g : α → List β) : ∀ l : List α, isum f (l.flatMap g) = isum (fun a => isum f (g a)) l
  | [] => rfl
  | a :: l => by rw [List.flatMap_cons, isum_append, isum, isum_flat f g l]
theorem sum_loop {α ρ : Type} {f : α → Int} {b : Nat → Int → α → Step Int ρ} : ∀ (l : List α) (i : Nat) (s : Int), IntKind.i64.wrap s = s → (∀ i s, ∀ a ∈ l, IntKind.i64.wrap s = s → b i s a = .next (IntKind.i64.wrap (s + f a))) → loopL b i s l = .fin (IntKind.i64.wrap (s + isum f l))
  | [], i, s, hs, hb => by simp [loopL, isum, hs]
  | a :: l, i, s, hs, hb => by
    unfold loopL
    rw [hb i s a (by simp) hs]
    simp only
    rw [sum_loop l (i + 1) _ (wrap_idem _) (fun i s x hx => hb i s x (by simp [hx])), wrap_wrap_add, isum, Int.add_assoc]
theorem app_loop {α β ρ : Type} {f : α → List β} {b : Nat → List β → α → Step (List β) ρ} (hb : ∀ i s a, b i s a = .next (s ++ f a)) : ∀ (l : List α) (i : Nat) (s : List β), loopL b i s l = .fin (s ++ l.flatMap f)
  | [], i, s => by simp [loopL]
  | a :: l, i, s => by
    unfold loopL
    rw [hb]
    simp only
    rw [app_loop hb l (i + 1), List.flatMap_cons, List.append_assoc]
theorem wrap_len {n : Nat} (h : n ≤ 9223372036854775807) : IntKind.i64.wrap ((n : Nat) : Int) = ((n : Nat) : Int) := Go.Ev.wrap_small (by omega) (by omega)
theorem bsz (a : Array UInt8) : (ByteArray.mk a).size = a.size := rfl
theorem loopC_all {σ : Type} {f : Nat → σ → Step σ Bool} (hd : ∀ i s r, f i s = .done r → r = false) : ∀ (n i : Nat) (s : σ), (∃ s', loopC f i s n = .fin s') ∨ loopC f i s n = .done false
  | 0, i, s => .inl ⟨s, rfl⟩
  | n + 1, i, s => by
    unfold loopC
    cases h : f i s with
    | next s' => exact loopC_all hd n (i + 1) s'
    | stop s' => exact .inl ⟨s', rfl⟩
    | done r => rw [hd i s r h]; exact .inr rfl
theorem loopL_all {α σ : Type} {f : Nat → σ → α → Step σ Bool} (hd : ∀ i s a r, f i s a = .done r → r = false) : ∀ (l : List α) (i : Nat) (s : σ), (∃ s', loopL f i s l = .fin s') ∨ loopL f i s l = .done false
  | [], i, s => .inl ⟨s, rfl⟩
  | a :: l, i, s => by
    unfold loopL
    cases h : f i s a with
    | next s' => exact loopL_all hd l (i + 1) s'
    | stop s' => exact .inl ⟨s', rfl⟩
    | done r => rw [hd i s a r h]; exact .inr rfl
theorem loopL_congr {α σ ρ : Type} {f g : Nat → σ → α → Step σ ρ} : ∀ (l : List α) (i : Nat) (s : σ), (∀ i s, ∀ a ∈ l, f i s a = g i s a) → loopL f i s l = loopL g i s l
  | [], i, s, _ => rfl
  | a :: l, i, s, h => by
    unfold loopL
    rw [h i s a (by simp)]
    cases g i s a with
    | next s' => exact loopL_congr l (i + 1) s' (fun i s x hx => h i s x (by simp [hx]))
    | _ => rfl
def laws_szPolS_b1 (r0 : (Pol → Int → Int)) (i1 : Nat) (s1 : Int) (a1 : Pol) : Step (Int) Int :=
  (bif (decide ((r0 a1 s1) < 0)) then (.done (-1)) else (.next (r0 a1 s1)))
def laws_szPolS (r0 : Pol → Int → Int) (p0 : (List Pol)) (p1 : Int) : Int :=
  (bif (decide ((IntKind.i64.wrap (p1 - (((p0).length : Nat) : Int))) < 0)) then (-1) else (Fin.get (fun s1 => s1) (loopL (laws_szPolS_b1 r0) 0 (IntKind.i64.wrap (p1 - (((p0).length : Nat) : Int))) p0)))
theorem c_laws_szPolS (r0 : Pol → Int → Int) (p0 : (List Pol)) (p1 : Int) (m0 : Nat) (hrec0 : ∀ (z0 : Pol) (z1 : Int), Pol.dep z0 < m0 → FnOk prog 119 [.agg (Pol.opn false z0), .one (.v (.int .i64 z1))] ⟨.one (.v (.int .i64 (r0 z0 z1))), [], [], false⟩) (hm0 : ∀ x ∈ p0, Pol.dep x < m0) : FnOk prog 178 [.one (.s false 5 (List.map (Pol.cells false) p0)), .one (.v (.int .i64 p1))] ⟨.one (.v (.int .i64 (laws_szPolS r0 p0 p1))), [], [], false⟩ := by
  refine FnOk.intro (E := env) envOk wide func178 rfl (by kernel_rfl) rfl rfl ?_
  refine lenE (k := (p0).length) (by simp) (fun hN1 => ?_)
  refine And.intro (fun (h2 : (decide ((IntKind.i64.wrap (p1 - (((p0).length : Nat) : Int))) < 0)) = true) => ?_) (fun (h2 : (decide ((IntKind.i64.wrap (p1 - (((p0).length : Nat) : Int))) < 0)) = false) => ?_)
  · refine And.intro (fun _ => .v _) ?_
    have hg : laws_szPolS r0 p0 p1 = (-1) := by
      first | rfl | (simp only [laws_szPolS, h2, cond_true, cond_false, Step.fin_stop, Step.fin_done, Fin.get_fin, Fin.get_done, Step.fin_next, Bool.not_true, Bool.not_false, Option.getD_some]; done) | (simp [laws_szPolS, h2, cond_true, cond_false, Step.fin_stop, Step.fin_done, Fin.get_fin, Fin.get_done, Step.fin_next, Bool.not_true, Bool.not_false, Option.getD_some]; done) | (exfalso; simp_all; done)
    exact congrArg (fun g : Int => AV.one (.v (.int .i64 g))) hg.symm
  · refine loop_rule (α := LstSt (laws_szPolS_b1 r0) (IntKind.i64.wrap (p1 - (((p0).length : Nat) : Int))) p0) [0] (fun x1 => [(1, .one (.v (.int .i64 x1.s))), (5, .one (.v (.int .i64 ((x1.i : Nat) : Int))))]) (fun x1 => []) (fun x1 => (p0).length - x1.i) .init [] ?_ (fun x1 => ?_)
    · exact ⟨rfl, ⟨rfl, rfl, rfl, trivial⟩, trivial, trivial⟩
    · refine lenE (k := (p0).length) (by simp) (fun hN3 => ?_)
      refine And.intro (fun (h4 : (decide (((x1.i : Nat) : Int) < (((p0).length : Nat) : Int))) = true) => ?_) (fun (h4 : (decide (((x1.i : Nat) : Int) < (((p0).length : Nat) : Int))) = false) => ?_)
      · have hi1 : x1.i < (p0).length := by simpa using h4
        have hw1 : IntKind.i64.wrap ((x1.i : Int) + 1) = ((x1.i + 1 : Nat) : Int) := wrap_succ hi1 (by first | assumption | omega)
        refine And.intro (fun _ => by (first | omega | (simp; done) | (simp; omega) | (simp at *; omega) | (simp at *; done) | (simp_all; done) | (simp_all; omega))) (rowAtR (Pol.cells_eq false) (i := x1.i) (l := p0) rfl hi1 ?_)
        refine ⟨_, _, hrec0 (p0[x1.i]'hi1) x1.s (by first | exact hm0 _ (List.getElem_mem _) | exact hm0 _ (List.mem_of_getElem? (by assumption)) | exact Nat.lt_of_lt_of_le (Pol.dep_lt (List.getElem_mem _)) (Nat.le_of_lt_succ hd0) | exact Nat.lt_of_lt_of_le (Pol.dep_lt (List.mem_of_getElem? (by assumption))) (Nat.le_of_lt_succ hd0)), (FzAs.same _), ?_⟩
        refine litE (m := 1) rfl ?_
        refine And.intro (fun (h5 : (decide ((r0 (p0[x1.i]'hi1) x1.s) < 0)) = true) => ?_) (fun (h5 : (decide ((r0 (p0[x1.i]'hi1) x1.s) < 0)) = false) => ?_)
        · have hb1 := x1.out hi1 (by first | rfl | (simp only [laws_szPolS_b1, h2, h4, h5, cond_true, cond_false, Bool.not_true, Bool.not_false, Option.getD_some, Step.isNext_stop, Step.isNext_done, Step.fin_stop, Step.fin_done, Fin.get_fin, Fin.get_done]; done) | (exfalso; simp_all; done))
          refine And.intro (fun _ => .v _) ?_
          have hg : laws_szPolS r0 p0 p1 = (-1) := by
            first | rfl | (simp only [laws_szPolS, laws_szPolS_b1, h2, h4, h5, hb1, cond_true, cond_false, Step.fin_stop, Step.fin_done, Fin.get_fin, Fin.get_done, Step.fin_next, Bool.not_true, Bool.not_false, Option.getD_some]; done) | (simp [laws_szPolS, laws_szPolS_b1, h2, h4, h5, hb1, cond_true, cond_false, Step.fin_stop, Step.fin_done, Fin.get_fin, Fin.get_done, Step.fin_next, Bool.not_true, Bool.not_false, Option.getD_some]; done) | (exfalso; simp_all; done)
          exact congrArg (fun g : Int => AV.one (.v (.int .i64 g))) hg.symm
        · refine x1.go hi1 (v := (r0 (p0[x1.i]'hi1) x1.s)) (by first | rfl | (simp only [laws_szPolS_b1, h2, h4, h5, cond_true, cond_false, Bool.not_true, Bool.not_false, Option.getD_some, Step.fin_stop, Step.fin_done, Fin.get_fin, Fin.get_done]; done) | (exfalso; simp_all; done)) [] (by show _ - (x1.i + 1) < _ - x1.i; omega) ?_
          exact ⟨rfl, ⟨rfl, (eqInt hw1), rfl, trivial⟩, trivial, trivial⟩
      · have hf1 := x1.fin (show ¬ x1.i < (p0).length by simpa using h4)
        refine And.intro (fun _ => .v _) ?_
        have hg : laws_szPolS r0 p0 p1 = x1.s := by
          first | rfl | (simp only [laws_szPolS, laws_szPolS_b1, h2, h4, hf1, cond_true, cond_false, Step.fin_stop, Step.fin_done, Fin.get_fin, Fin.get_done, Step.fin_next, Bool.not_true, Bool.not_false, Option.getD_some]; done) | (simp [laws_szPolS, laws_szPolS_b1, h2, h4, hf1, cond_true, cond_false, Step.fin_stop, Step.fin_done, Fin.get_fin, Fin.get_done, Step.fin_next, Bool.not_true, Bool.not_false, Option.getD_some]; done) | (exfalso; simp_all; done)
        exact congrArg (fun g : Int => AV.one (.v (.int .i64 g))) hg.symm
def laws_szPolR : Nat → Pol → Int → Int
  | 0, _, _ => default
  | n + 1, p0, p1 => (bif (decide ((IntKind.i64.wrap (p1 - (((p0.Key).size : Nat) : Int))) < 0)) then (-1) else (bif (decide ((IntKind.i64.wrap ((IntKind.i64.wrap (p1 - (((p0.Key).size : Nat) : Int))) - (((p0.Text).size : Nat) : Int))) < 0)) then (-1) else (bif (decide ((laws_szPolS (laws_szPolR n) p0.L (IntKind.i64.wrap ((IntKind.i64.wrap (p1 - (((p0.Key).size : Nat) : Int))) - (((p0.Text).size : Nat) : Int)))) < 0)) then (-1) else (laws_szPolS (laws_szPolR n) p0.L (IntKind.i64.wrap ((IntKind.i64.wrap (p1 - (((p0.Key).size : Nat) : Int))) - (((p0.Text).size : Nat) : Int)))))))
theorem cR_laws_szPol : ∀ (n : Nat) (p0 : Pol) (p1 : Int), Pol.dep p0 < n → FnOk prog 119 [.agg (Pol.opn false p0), .one (.v (.int .i64 p1))] ⟨.one (.v (.int .i64 (laws_szPolR n p0 p1))), [], [], false⟩ := by
  intro n
  induction n with
  | zero => intro p0 p1 hd0; omega
  | succ n ih =>
    intro p0 p1 hd0
    refine FnOk.intro (E := env) envOk wide func119 rfl (by kernel_rfl) rfl rfl ?_
    refine litE (m := 0) rfl ?_
    refine fun hN => ?_
    have hN1 : (_ : Nat) ≤ 9223372036854775807 := hN rfl
    refine And.intro (fun (h2 : (decide ((IntKind.i64.wrap (p1 - (((p0.Key).size : Nat) : Int))) < 0)) = true) => ?_) (fun (h2 : (decide ((IntKind.i64.wrap (p1 - (((p0.Key).size : Nat) : Int))) < 0)) = false) => ?_)
    · refine And.intro (fun _ => .v _) ?_
      have hg : (laws_szPolR (n + 1) p0 p1) = (-1) := by
        first | rfl | (simp only [laws_szPolR, h2, cond_true, cond_false, Step.fin_stop, Step.fin_done, Fin.get_fin, Fin.get_done, Step.fin_next, Bool.not_true, Bool.not_false, Option.getD_some]; done) | (simp [laws_szPolR, h2, cond_true, cond_false, Step.fin_stop, Step.fin_done, Fin.get_fin, Fin.get_done, Step.fin_next, Bool.not_true, Bool.not_false, Option.getD_some]; done) | (exfalso; simp_all; done)
      exact congrArg (fun g : Int => AV.one (.v (.int .i64 g))) hg.symm
    · refine fun hN => ?_
      have hN3 : (_ : Nat) ≤ 9223372036854775807 := hN rfl
      refine And.intro (fun (h4 : (decide ((IntKind.i64.wrap ((IntKind.i64.wrap (p1 - (((p0.Key).size : Nat) : Int))) - (((p0.Text).size : Nat) : Int))) < 0)) = true) => ?_) (fun (h4 : (decide ((IntKind.i64.wrap ((IntKind.i64.wrap (p1 - (((p0.Key).size : Nat) : Int))) - (((p0.Text).size : Nat) : Int))) < 0)) = false) => ?_)
      · refine And.intro (fun _ => .v _) ?_
        have hg : (laws_szPolR (n + 1) p0 p1) = (-1) := by
          first | rfl | (simp only [laws_szPolR, h2, h4, cond_true, cond_false, Step.fin_stop, Step.fin_done, Fin.get_fin, Fin.get_done, Step.fin_next, Bool.not_true, Bool.not_false, Option.getD_some]; done) | (simp [laws_szPolR, h2, h4, cond_true, cond_false, Step.fin_stop, Step.fin_done, Fin.get_fin, Fin.get_done, Step.fin_next, Bool.not_true, Bool.not_false, Option.getD_some]; done) | (exfalso; simp_all; done)
        exact congrArg (fun g : Int => AV.one (.v (.int .i64 g))) hg.symm
      · refine ⟨_, _, c_laws_szPolS (laws_szPolR n) p0.L (IntKind.i64.wrap ((IntKind.i64.wrap (p1 - (((p0.Key).size : Nat) : Int))) - (((p0.Text).size : Nat) : Int))) n ih (by first | exact hm0 | exact fun x hx => Nat.lt_of_lt_of_le (Pol.dep_lt hx) (Nat.le_of_lt_succ hd0)), (FzAs.same _), ?_⟩
        refine litE (m := 2) rfl ?_
        refine And.intro (fun (h5 : (decide ((laws_szPolS (laws_szPolR n) p0.L (IntKind.i64.wrap ((IntKind.i64.wrap (p1 - (((p0.Key).size : Nat) : Int))) - (((p0.Text).size : Nat) : Int)))) < 0)) = true) => ?_) (fun (h5 : (decide ((laws_szPolS (laws_szPolR n) p0.L (IntKind.i64.wrap ((IntKind.i64.wrap (p1 - (((p0.Key).size : Nat) : Int))) - (((p0.Text).size : Nat) : Int)))) < 0)) = false) => ?_)
        · refine And.intro (fun _ => .v _) ?_
          have hg : (laws_szPolR (n + 1) p0 p1) = (-1) := by
            first | rfl | (simp only [laws_szPolR, h2, h4, h5, cond_true, cond_false, Step.fin_stop, Step.fin_done, Fin.get_fin, Fin.get_done, Step.fin_next, Bool.not_true, Bool.not_false, Option.getD_some]; done) | (simp [laws_szPolR, h2, h4, h5, cond_true, cond_false, Step.fin_stop, Step.fin_done, Fin.get_fin, Fin.get_done, Step.fin_next, Bool.not_true, Bool.not_false, Option.getD_some]; done) | (exfalso; simp_all; done)
          exact congrArg (fun g : Int => AV.one (.v (.int .i64 g))) hg.symm
        · refine And.intro (fun _ => .v _) ?_
          have hg : (laws_szPolR (n + 1) p0 p1) = (laws_szPolS (laws_szPolR n) p0.L (IntKind.i64.wrap ((IntKind.i64.wrap (p1 - (((p0.Key).size : Nat) : Int))) - (((p0.Text).size : Nat) : Int)))) := by
            first | rfl | (simp only [laws_szPolR, h2, h4, h5, cond_true, cond_false, Step.fin_stop, Step.fin_done, Fin.get_fin, Fin.get_done, Step.fin_next, Bool.not_true, Bool.not_false, Option.getD_some]; done) | (simp [laws_szPolR, h2, h4, h5, cond_true, cond_false, Step.fin_stop, Step.fin_done, Fin.get_fin, Fin.get_done, Step.fin_next, Bool.not_true, Bool.not_false, Option.getD_some]; done) | (exfalso; simp_all; done)
          exact congrArg (fun g : Int => AV.one (.v (.int .i64 g))) hg.symm
def laws_szPol (p0 : Pol) (p1 : Int) : Int := laws_szPolR (Pol.dep p0 + 1) p0 p1
theorem c_laws_szPol (p0 : Pol) (p1 : Int) : FnOk prog 119 [.agg (Pol.opn false p0), .one (.v (.int .i64 p1))] ⟨.one (.v (.int .i64 (laws_szPol p0 p1))), [], [], false⟩ := cR_laws_szPol _ p0 p1 (Nat.lt_succ_self _)
theorem szdR_laws_szPol : ∀ (n : Nat) (x : Pol), Pol.dep x < n → SzdAt Pol.bd (laws_szPolR n) x := by
  intro n
  induction n with
  | zero => intro x h; omega
  | succ n ih =>
    intro x h left hb h0 h1 h2
    have hS := szS_okM (P := Pol.bd) (f := laws_szPolR n) (b := laws_szPolS_b1 (laws_szPolR n)) (g := laws_szPolS (laws_szPolR n)) (fun _ _ _ => rfl) (fun _ _ => rfl) x.L (fun a ha => ih a (Nat.lt_of_lt_of_le (Pol.dep_lt ha) (Nat.le_of_lt_succ h)))
    have eqn : laws_szPolR (n + 1) x left = _ := rfl
    simp only [laws_szPolR] at h2 ⊢
    clear eqn
    rw [Pol.bd_eq] at hb ⊢
    cases c0 : decide ((IntKind.i64.wrap (left - (((x.Key).size : Nat) : Int))) < 0) with
    | true => simp [c0] at h2
    | false =>
    have p0 : 0 ≤ (IntKind.i64.wrap (left - (((x.Key).size : Nat) : Int))) := by simpa using c0
    have w0 : (IntKind.i64.wrap (left - (((x.Key).size : Nat) : Int))) = left - (((x.Key).size : Nat) : Int) := by have := hb.1; rw [Go.Ev.wrap_small] <;> omega
    have b0 : (x.Key).size ≤ 1048576 := by omega
    have u0 : (IntKind.i64.wrap (left - (((x.Key).size : Nat) : Int))) ≤ left := by omega
    have v0 : (IntKind.i64.wrap (left - (((x.Key).size : Nat) : Int))) ≤ 1048576 := by omega
    cases c1 : decide ((IntKind.i64.wrap ((IntKind.i64.wrap (left - (((x.Key).size : Nat) : Int))) - (((x.Text).size : Nat) : Int))) < 0) with
    | true => simp [c0, c1] at h2
    | false =>
    have p1 : 0 ≤ (IntKind.i64.wrap ((IntKind.i64.wrap (left - (((x.Key).size : Nat) : Int))) - (((x.Text).size : Nat) : Int))) := by simpa using c1
    have w1 : (IntKind.i64.wrap ((IntKind.i64.wrap (left - (((x.Key).size : Nat) : Int))) - (((x.Text).size : Nat) : Int))) = (IntKind.i64.wrap (left - (((x.Key).size : Nat) : Int))) - (((x.Text).size : Nat) : Int) := by have := hb.2.1; rw [Go.Ev.wrap_small] <;> omega
    have b1 : (x.Text).size ≤ 1048576 := by omega
    have u1 : (IntKind.i64.wrap ((IntKind.i64.wrap (left - (((x.Key).size : Nat) : Int))) - (((x.Text).size : Nat) : Int))) ≤ (IntKind.i64.wrap (left - (((x.Key).size : Nat) : Int))) := by omega
    have v1 : (IntKind.i64.wrap ((IntKind.i64.wrap (left - (((x.Key).size : Nat) : Int))) - (((x.Text).size : Nat) : Int))) ≤ 1048576 := by omega
    cases c2 : decide ((laws_szPolS (laws_szPolR n) x.L (IntKind.i64.wrap ((IntKind.i64.wrap (left - (((x.Key).size : Nat) : Int))) - (((x.Text).size : Nat) : Int)))) < 0) with
    | true => simp [c0, c1, c2] at h2
    | false =>
    have p2 : 0 ≤ (laws_szPolS (laws_szPolR n) x.L (IntKind.i64.wrap ((IntKind.i64.wrap (left - (((x.Key).size : Nat) : Int))) - (((x.Text).size : Nat) : Int)))) := by simpa using c2
    have z2 := hS (IntKind.i64.wrap ((IntKind.i64.wrap (left - (((x.Key).size : Nat) : Int))) - (((x.Text).size : Nat) : Int))) hb.2.2 p1 v1 p2
    have b2 := z2.1
    have u2 := z2.2
    have v2 : (laws_szPolS (laws_szPolR n) x.L (IntKind.i64.wrap ((IntKind.i64.wrap (left - (((x.Key).size : Nat) : Int))) - (((x.Text).size : Nat) : Int)))) ≤ 1048576 := by omega
    simp only [c0, c1, c2, cond_false] at h2 ⊢
    exact ⟨⟨b0, b1, b2⟩, by omega⟩
theorem szd_laws_szPol : Szd Pol.bd laws_szPol := fun x left => szdR_laws_szPol _ x (Nat.lt_succ_self _) left
def laws_szConf (p0 : Conf) (p1 : Int) : Int :=
  (bif (decide ((laws_szPol p0.Rule p1) < 0)) then (-1) else (laws_szPol p0.Rule p1))
theorem c_laws_szConf (p0 : Conf) (p1 : Int) : FnOk prog 49 [.agg ((Conf.cells false) p0), .one (.v (.int .i64 p1))] ⟨.one (.v (.int .i64 (laws_szConf p0 p1))), [], [], false⟩ := by
  refine FnOk.intro (E := env) envOk wide func49 rfl (by kernel_rfl) rfl rfl ?_
  refine litE (m := 0) rfl ?_
  refine ⟨_, _, c_laws_szPol p0.Rule p1, (FzAs.same _), ?_⟩
  refine litE (m := 2) rfl ?_
  refine And.intro (fun (h1 : (decide ((laws_szPol p0.Rule p1) < 0)) = true) => ?_) (fun (h1 : (decide ((laws_szPol p0.Rule p1) < 0)) = false) => ?_)
  · refine And.intro (fun _ => .v _) ?_
    have hg : laws_szConf p0 p1 = (-1) := by
      first | rfl | (simp only [laws_szConf, h1, cond_true, cond_false, Step.fin_stop, Step.fin_done, Fin.get_fin, Fin.get_done, Step.fin_next, Bool.not_true, Bool.not_false, Option.getD_some]; done) | (simp [laws_szConf, h1, cond_true, cond_false, Step.fin_stop, Step.fin_done, Fin.get_fin, Fin.get_done, Step.fin_next, Bool.not_true, Bool.not_false, Option.getD_some]; done) | (exfalso; simp_all; done)
    exact congrArg (fun g : Int => AV.one (.v (.int .i64 g))) hg.symm
  · refine And.intro (fun _ => .v _) ?_
    have hg : laws_szConf p0 p1 = (laws_szPol p0.Rule p1) := by
      first | rfl | (simp only [laws_szConf, h1, cond_true, cond_false, Step.fin_stop, Step.fin_done, Fin.get_fin, Fin.get_done, Step.fin_next, Bool.not_true, Bool.not_false, Option.getD_some]; done) | (simp [laws_szConf, h1, cond_true, cond_false, Step.fin_stop, Step.fin_done, Fin.get_fin, Fin.get_done, Step.fin_next, Bool.not_true, Bool.not_false, Option.getD_some]; done) | (exfalso; simp_all; done)
    exact congrArg (fun g : Int => AV.one (.v (.int .i64 g))) hg.symm
theorem szd_laws_szConf : Szd Conf.bd laws_szConf := by
  intro x left hb h0 h1 h2
  unfold laws_szConf at h2 ⊢
  unfold Conf.bd at hb ⊢
  cases c0 : decide ((laws_szPol x.Rule left) < 0) with
  | true => simp [c0] at h2
  | false =>
  have p0 : 0 ≤ (laws_szPol x.Rule left) := by simpa using c0
  have z0 := szd_laws_szPol x.Rule left hb h0 h1 p0
  have b0 := z0.1
  have u0 := z0.2
  have v0 : (laws_szPol x.Rule left) ≤ 1048576 := by omega
  simp only [c0, cond_false] at h2 ⊢
  exact ⟨b0, by omega⟩
def laws_szAttr (p0 : Attr) (p1 : Int) : Int :=
  (bif (decide ((IntKind.i64.wrap (p1 - (((p0.Key).size : Nat) : Int))) < 0)) then (-1) else (bif (decide ((IntKind.i64.wrap ((IntKind.i64.wrap (p1 - (((p0.Key).size : Nat) : Int))) - (((p0.Text).size : Nat) : Int))) < 0)) then (-1) else (IntKind.i64.wrap ((IntKind.i64.wrap (p1 - (((p0.Key).size : Nat) : Int))) - (((p0.Text).size : Nat) : Int)))))
theorem c_laws_szAttr (p0 : Attr) (p1 : Int) : FnOk prog 225 [.agg (Attr.cells p0), .one (.v (.int .i64 p1))] ⟨.one (.v (.int .i64 (laws_szAttr p0 p1))), [], [], false⟩ := by
  refine FnOk.intro (E := env) envOk wide func225 rfl (by kernel_rfl) rfl rfl ?_
  refine litE (m := 0) rfl ?_
  refine fun hN => ?_
  have hN1 : (_ : Nat) ≤ 9223372036854775807 := hN rfl
  refine And.intro (fun (h2 : (decide ((IntKind.i64.wrap (p1 - (((p0.Key).size : Nat) : Int))) < 0)) = true) => ?_) (fun (h2 : (decide ((IntKind.i64.wrap (p1 - (((p0.Key).size : Nat) : Int))) < 0)) = false) => ?_)
  · refine And.intro (fun _ => .v _) ?_
    have hg : laws_szAttr p0 p1 = (-1) := by
      first | rfl | (simp only [laws_szAttr, h2, cond_true, cond_false, Step.fin_stop, Step.fin_done, Fin.get_fin, Fin.get_done, Step.fin_next, Bool.not_true, Bool.not_false, Option.getD_some]; done) | (simp [laws_szAttr, h2, cond_true, cond_false, Step.fin_stop, Step.fin_done, Fin.get_fin, Fin.get_done, Step.fin_next, Bool.not_true, Bool.not_false, Option.getD_some]; done) | (exfalso; simp_all; done)
    exact congrArg (fun g : Int => AV.one (.v (.int .i64 g))) hg.symm
  · refine fun hN => ?_
    have hN3 : (_ : Nat) ≤ 9223372036854775807 := hN rfl
    refine And.intro (fun (h4 : (decide ((IntKind.i64.wrap ((IntKind.i64.wrap (p1 - (((p0.Key).size : Nat) : Int))) - (((p0.Text).size : Nat) : Int))) < 0)) = true) => ?_) (fun (h4 : (decide ((IntKind.i64.wrap ((IntKind.i64.wrap (p1 - (((p0.Key).size : Nat) : Int))) - (((p0.Text).size : Nat) : Int))) < 0)) = false) => ?_)
    · refine And.intro (fun _ => .v _) ?_
      have hg : laws_szAttr p0 p1 = (-1) := by
        first | rfl | (simp only [laws_szAttr, h2, h4, cond_true, cond_false, Step.fin_stop, Step.fin_done, Fin.get_fin, Fin.get_done, Step.fin_next, Bool.not_true, Bool.not_false, Option.getD_some]; done) | (simp [laws_szAttr, h2, h4, cond_true, cond_false, Step.fin_stop, Step.fin_done, Fin.get_fin, Fin.get_done, Step.fin_next, Bool.not_true, Bool.not_false, Option.getD_some]; done) | (exfalso; simp_all; done)
      exact congrArg (fun g : Int => AV.one (.v (.int .i64 g))) hg.symm
    · refine And.intro (fun _ => .v _) ?_
      have hg : laws_szAttr p0 p1 = (IntKind.i64.wrap ((IntKind.i64.wrap (p1 - (((p0.Key).size : Nat) : Int))) - (((p0.Text).size : Nat) : Int))) := by
        first | rfl | (simp only [laws_szAttr, h2, h4, cond_true, cond_false, Step.fin_stop, Step.fin_done, Fin.get_fin, Fin.get_done, Step.fin_next, Bool.not_true, Bool.not_false, Option.getD_some]; done) | (simp [laws_szAttr, h2, h4, cond_true, cond_false, Step.fin_stop, Step.fin_done, Fin.get_fin, Fin.get_done, Step.fin_next, Bool.not_true, Bool.not_false, Option.getD_some]; done) | (exfalso; simp_all; done)
      exact congrArg (fun g : Int => AV.one (.v (.int .i64 g))) hg.symm
theorem szd_laws_szAttr : Szd Attr.bd laws_szAttr := by
  intro x left hb h0 h1 h2
  unfold laws_szAttr at h2 ⊢
  unfold Attr.bd at hb ⊢
  cases c0 : decide ((IntKind.i64.wrap (left - (((x.Key).size : Nat) : Int))) < 0) with
  | true => simp [c0] at h2
  | false =>
  have p0 : 0 ≤ (IntKind.i64.wrap (left - (((x.Key).size : Nat) : Int))) := by simpa using c0
  have w0 : (IntKind.i64.wrap (left - (((x.Key).size : Nat) : Int))) = left - (((x.Key).size : Nat) : Int) := by have := hb.1; rw [Go.Ev.wrap_small] <;> omega
  have b0 : (x.Key).size ≤ 1048576 := by omega
  have u0 : (IntKind.i64.wrap (left - (((x.Key).size : Nat) : Int))) ≤ left := by omega
  have v0 : (IntKind.i64.wrap (left - (((x.Key).size : Nat) : Int))) ≤ 1048576 := by omega
  cases c1 : decide ((IntKind.i64.wrap ((IntKind.i64.wrap (left - (((x.Key).size : Nat) : Int))) - (((x.Text).size : Nat) : Int))) < 0) with
  | true => simp [c0, c1] at h2
  | false =>
  have p1 : 0 ≤ (IntKind.i64.wrap ((IntKind.i64.wrap (left - (((x.Key).size : Nat) : Int))) - (((x.Text).size : Nat) : Int))) := by simpa using c1
  have w1 : (IntKind.i64.wrap ((IntKind.i64.wrap (left - (((x.Key).size : Nat) : Int))) - (((x.Text).size : Nat) : Int))) = (IntKind.i64.wrap (left - (((x.Key).size : Nat) : Int))) - (((x.Text).size : Nat) : Int) := by have := hb.2; rw [Go.Ev.wrap_small] <;> omega
  have b1 : (x.Text).size ≤ 1048576 := by omega
  have u1 : (IntKind.i64.wrap ((IntKind.i64.wrap (left - (((x.Key).size : Nat) : Int))) - (((x.Text).size : Nat) : Int))) ≤ (IntKind.i64.wrap (left - (((x.Key).size : Nat) : Int))) := by omega
  have v1 : (IntKind.i64.wrap ((IntKind.i64.wrap (left - (((x.Key).size : Nat) : Int))) - (((x.Text).size : Nat) : Int))) ≤ 1048576 := by omega
  simp only [c0, c1, cond_false] at h2 ⊢
  exact ⟨⟨b0, b1⟩, by omega⟩
def laws_szAttrS_b1 (i1 : Nat) (s1 : Int) (a1 : Attr) : Step (Int) Int :=
  (bif (decide ((laws_szAttr a1 s1) < 0)) then (.done (-1)) else (.next (laws_szAttr a1 s1)))
def laws_szAttrS (p0 : (List Attr)) (p1 : Int) : Int :=
  (bif (decide ((IntKind.i64.wrap (p1 - (((p0).length : Nat) : Int))) < 0)) then (-1) else (Fin.get (fun s1 => s1) (loopL laws_szAttrS_b1 0 (IntKind.i64.wrap (p1 - (((p0).length : Nat) : Int))) p0)))
theorem c_laws_szAttrS (p0 : (List Attr)) (p1 : Int) : FnOk prog 200 [.one (.s false 4 (List.map Attr.cells p0)), .one (.v (.int .i64 p1))] ⟨.one (.v (.int .i64 (laws_szAttrS p0 p1))), [], [], false⟩ := by
  refine FnOk.intro (E := env) envOk wide func200 rfl (by kernel_rfl) rfl rfl ?_
  refine lenE (k := (p0).length) (by simp) (fun hN1 => ?_)
  refine And.intro (fun (h2 : (decide ((IntKind.i64.wrap (p1 - (((p0).length : Nat) : Int))) < 0)) = true) => ?_) (fun (h2 : (decide ((IntKind.i64.wrap (p1 - (((p0).length : Nat) : Int))) < 0)) = false) => ?_)
  · refine And.intro (fun _ => .v _) ?_
    have hg : laws_szAttrS p0 p1 = (-1) := by
      first | rfl | (simp only [laws_szAttrS, h2, cond_true, cond_false, Step.fin_stop, Step.fin_done, Fin.get_fin, Fin.get_done, Step.fin_next, Bool.not_true, Bool.not_false, Option.getD_some]; done) | (simp [laws_szAttrS, h2, cond_true, cond_false, Step.fin_stop, Step.fin_done, Fin.get_fin, Fin.get_done, Step.fin_next, Bool.not_true, Bool.not_false, Option.getD_some]; done) | (exfalso; simp_all; done)
    exact congrArg (fun g : Int => AV.one (.v (.int .i64 g))) hg.symm
  · refine loop_rule (α := LstSt laws_szAttrS_b1 (IntKind.i64.wrap (p1 - (((p0).length : Nat) : Int))) p0) [0] (fun x1 => [(1, .one (.v (.int .i64 x1.s))), (5, .one (.v (.int .i64 ((x1.i : Nat) : Int))))]) (fun x1 => []) (fun x1 => (p0).length - x1.i) .init [] ?_ (fun x1 => ?_)
    · exact ⟨rfl, ⟨rfl, rfl, rfl, trivial⟩, trivial, trivial⟩
    · refine lenE (k := (p0).length) (by simp) (fun hN3 => ?_)
      refine And.intro (fun (h4 : (decide (((x1.i : Nat) : Int) < (((p0).length : Nat) : Int))) = true) => ?_) (fun (h4 : (decide (((x1.i : Nat) : Int) < (((p0).length : Nat) : Int))) = false) => ?_)
      · have hi1 : x1.i < (p0).length := by simpa using h4
        have hw1 : IntKind.i64.wrap ((x1.i : Int) + 1) = ((x1.i + 1 : Nat) : Int) := wrap_succ hi1 (by first | assumption | omega)
        refine And.intro (fun _ => by exact idx_at hi1) (rowAtE (i := x1.i) (l := p0) rfl hi1 ?_)
        refine ⟨_, _, c_laws_szAttr (p0[x1.i]'hi1) x1.s, (FzAs.same _), ?_⟩
        refine litE (m := 1) rfl ?_
        refine And.intro (fun (h5 : (decide ((laws_szAttr (p0[x1.i]'hi1) x1.s) < 0)) = true) => ?_) (fun (h5 : (decide ((laws_szAttr (p0[x1.i]'hi1) x1.s) < 0)) = false) => ?_)
        · have hb1 := x1.out hi1 (by first | rfl | (simp only [laws_szAttrS_b1, h2, h4, h5, cond_true, cond_false, Bool.not_true, Bool.not_false, Option.getD_some, Step.isNext_stop, Step.isNext_done, Step.fin_stop, Step.fin_done, Fin.get_fin, Fin.get_done]; done) | (exfalso; simp_all; done))
          refine And.intro (fun _ => .v _) ?_
          have hg : laws_szAttrS p0 p1 = (-1) := by
            first | rfl | (simp only [laws_szAttrS, laws_szAttrS_b1, h2, h4, h5, hb1, cond_true, cond_false, Step.fin_stop, Step.fin_done, Fin.get_fin, Fin.get_done, Step.fin_next, Bool.not_true, Bool.not_false, Option.getD_some]; done) | (simp [laws_szAttrS, laws_szAttrS_b1, h2, h4, h5, hb1, cond_true, cond_false, Step.fin_stop, Step.fin_done, Fin.get_fin, Fin.get_done, Step.fin_next, Bool.not_true, Bool.not_false, Option.getD_some]; done) | (exfalso; simp_all; done)
          exact congrArg (fun g : Int => AV.one (.v (.int .i64 g))) hg.symm
        · refine x1.go hi1 (v := (laws_szAttr (p0[x1.i]'hi1) x1.s)) (by first | rfl | (simp only [laws_szAttrS_b1, h2, h4, h5, cond_true, cond_false, Bool.not_true, Bool.not_false, Option.getD_some, Step.fin_stop, Step.fin_done, Fin.get_fin, Fin.get_done]; done) | (exfalso; simp_all; done)) [] (by show _ - (x1.i + 1) < _ - x1.i; omega) ?_
          exact ⟨rfl, ⟨rfl, (eqInt hw1), rfl, trivial⟩, trivial, trivial⟩
      · have hf1 := x1.fin (show ¬ x1.i < (p0).length by simpa using h4)
        refine And.intro (fun _ => .v _) ?_
        have hg : laws_szAttrS p0 p1 = x1.s := by
          first | rfl | (simp only [laws_szAttrS, laws_szAttrS_b1, h2, h4, hf1, cond_true, cond_false, Step.fin_stop, Step.fin_done, Fin.get_fin, Fin.get_done, Step.fin_next, Bool.not_true, Bool.not_false, Option.getD_some]; done) | (simp [laws_szAttrS, laws_szAttrS_b1, h2, h4, hf1, cond_true, cond_false, Step.fin_stop, Step.fin_done, Fin.get_fin, Fin.get_done, Step.fin_next, Bool.not_true, Bool.not_false, Option.getD_some]; done) | (exfalso; simp_all; done)
        exact congrArg (fun g : Int => AV.one (.v (.int .i64 g))) hg.symm
theorem szd_laws_szAttrS : Szd (bdS Attr.bd) laws_szAttrS := szS_ok (b := laws_szAttrS_b1) szd_laws_szAttr (fun _ _ _ => rfl) (fun _ _ => rfl)
def laws_szSpan (p0 : Span) (p1 : Int) : Int :=
  (bif (decide ((laws_szAttrS p0.Attrs p1) < 0)) then (-1) else (laws_szAttrS p0.Attrs p1))
theorem c_laws_szSpan (p0 : Span) (p1 : Int) : FnOk prog 171 [.agg ((Span.cells false) p0), .one (.v (.int .i64 p1))] ⟨.one (.v (.int .i64 (laws_szSpan p0 p1))), [], [], false⟩ := by
  refine FnOk.intro (E := env) envOk wide func171 rfl (by kernel_rfl) rfl rfl ?_
  refine litE (m := 0) rfl ?_
  refine ⟨_, _, c_laws_szAttrS p0.Attrs p1, (FzAs.same _), ?_⟩
  refine litE (m := 2) rfl ?_
  refine And.intro (fun (h1 : (decide ((laws_szAttrS p0.Attrs p1) < 0)) = true) => ?_) (fun (h1 : (decide ((laws_szAttrS p0.Attrs p1) < 0)) = false) => ?_)
  · refine And.intro (fun _ => .v _) ?_
    have hg : laws_szSpan p0 p1 = (-1) := by
      first | rfl | (simp only [laws_szSpan, h1, cond_true, cond_false, Step.fin_stop, Step.fin_done, Fin.get_fin, Fin.get_done, Step.fin_next, Bool.not_true, Bool.not_false, Option.getD_some]; done) | (simp [laws_szSpan, h1, cond_true, cond_false, Step.fin_stop, Step.fin_done, Fin.get_fin, Fin.get_done, Step.fin_next, Bool.not_true, Bool.not_false, Option.getD_some]; done) | (exfalso; simp_all; done)
    exact congrArg (fun g : Int => AV.one (.v (.int .i64 g))) hg.symm
  · refine And.intro (fun _ => .v _) ?_
    have hg : laws_szSpan p0 p1 = (laws_szAttrS p0.Attrs p1) := by
      first | rfl | (simp only [laws_szSpan, h1, cond_true, cond_false, Step.fin_stop, Step.fin_done, Fin.get_fin, Fin.get_done, Step.fin_next, Bool.not_true, Bool.not_false, Option.getD_some]; done) | (simp [laws_szSpan, h1, cond_true, cond_false, Step.fin_stop, Step.fin_done, Fin.get_fin, Fin.get_done, Step.fin_next, Bool.not_true, Bool.not_false, Option.getD_some]; done) | (exfalso; simp_all; done)
    exact congrArg (fun g : Int => AV.one (.v (.int .i64 g))) hg.symm
theorem szd_laws_szSpan : Szd Span.bd laws_szSpan := by
  intro x left hb h0 h1 h2
  unfold laws_szSpan at h2 ⊢
  unfold Span.bd at hb ⊢
  cases c0 : decide ((laws_szAttrS x.Attrs left) < 0) with
  | true => simp [c0] at h2
  | false =>
  have p0 : 0 ≤ (laws_szAttrS x.Attrs left) := by simpa using c0
  have z0 := szd_laws_szAttrS x.Attrs left hb h0 h1 p0
  have b0 := z0.1
  have u0 := z0.2
  have v0 : (laws_szAttrS x.Attrs left) ≤ 1048576 := by omega
  simp only [c0, cond_false] at h2 ⊢
  exact ⟨b0, by omega⟩
def laws_szSpanS_b1 (i1 : Nat) (s1 : Int) (a1 : Span) : Step (Int) Int :=
  (bif (decide ((laws_szSpan a1 s1) < 0)) then (.done (-1)) else (.next (laws_szSpan a1 s1)))
def laws_szSpanS (p0 : (List Span)) (p1 : Int) : Int :=
  (bif (decide ((IntKind.i64.wrap (p1 - (((p0).length : Nat) : Int))) < 0)) then (-1) else (Fin.get (fun s1 => s1) (loopL laws_szSpanS_b1 0 (IntKind.i64.wrap (p1 - (((p0).length : Nat) : Int))) p0)))
theorem c_laws_szSpanS (p0 : (List Span)) (p1 : Int) : FnOk prog 189 [.one (.s false 6 (List.map (Span.cells false) p0)), .one (.v (.int .i64 p1))] ⟨.one (.v (.int .i64 (laws_szSpanS p0 p1))), [], [], false⟩ := by
  refine FnOk.intro (E := env) envOk wide func189 rfl (by kernel_rfl) rfl rfl ?_
  refine lenE (k := (p0).length) (by simp) (fun hN1 => ?_)
  refine And.intro (fun (h2 : (decide ((IntKind.i64.wrap (p1 - (((p0).length : Nat) : Int))) < 0)) = true) => ?_) (fun (h2 : (decide ((IntKind.i64.wrap (p1 - (((p0).length : Nat) : Int))) < 0)) = false) => ?_)
  · refine And.intro (fun _ => .v _) ?_
    have hg : laws_szSpanS p0 p1 = (-1) := by
      first | rfl | (simp only [laws_szSpanS, h2, cond_true, cond_false, Step.fin_stop, Step.fin_done, Fin.get_fin, Fin.get_done, Step.fin_next, Bool.not_true, Bool.not_false, Option.getD_some]; done) | (simp [laws_szSpanS, h2, cond_true, cond_false, Step.fin_stop, Step.fin_done, Fin.get_fin, Fin.get_done, Step.fin_next, Bool.not_true, Bool.not_false, Option.getD_some]; done) | (exfalso; simp_all; done)
    exact congrArg (fun g : Int => AV.one (.v (.int .i64 g))) hg.symm
  · refine loop_rule (α := LstSt laws_szSpanS_b1 (IntKind.i64.wrap (p1 - (((p0).length : Nat) : Int))) p0) [0] (fun x1 => [(1, .one (.v (.int .i64 x1.s))), (5, .one (.v (.int .i64 ((x1.i : Nat) : Int))))]) (fun x1 => []) (fun x1 => (p0).length - x1.i) .init [] ?_ (fun x1 => ?_)
    · exact ⟨rfl, ⟨rfl, rfl, rfl, trivial⟩, trivial, trivial⟩
    · refine lenE (k := (p0).length) (by simp) (fun hN3 => ?_)
      refine And.intro (fun (h4 : (decide (((x1.i : Nat) : Int) < (((p0).length : Nat) : Int))) = true) => ?_) (fun (h4 : (decide (((x1.i : Nat) : Int) < (((p0).length : Nat) : Int))) = false) => ?_)
      · have hi1 : x1.i < (p0).length := by simpa using h4
        have hw1 : IntKind.i64.wrap ((x1.i : Int) + 1) = ((x1.i + 1 : Nat) : Int) := wrap_succ hi1 (by first | assumption | omega)
        refine And.intro (fun _ => by exact idx_at hi1) (rowAtE (i := x1.i) (l := p0) rfl hi1 ?_)
        refine ⟨_, _, c_laws_szSpan (p0[x1.i]'hi1) x1.s, (FzAs.same _), ?_⟩
        refine litE (m := 1) rfl ?_
        refine And.intro (fun (h5 : (decide ((laws_szSpan (p0[x1.i]'hi1) x1.s) < 0)) = true) => ?_) (fun (h5 : (decide ((laws_szSpan (p0[x1.i]'hi1) x1.s) < 0)) = false) => ?_)
        · have hb1 := x1.out hi1 (by first | rfl | (simp only [laws_szSpanS_b1, h2, h4, h5, cond_true, cond_false, Bool.not_true, Bool.not_false, Option.getD_some, Step.isNext_stop, Step.isNext_done, Step.fin_stop, Step.fin_done, Fin.get_fin, Fin.get_done]; done) | (exfalso; simp_all; done))
          refine And.intro (fun _ => .v _) ?_
          have hg : laws_szSpanS p0 p1 = (-1) := by
            first | rfl | (simp only [laws_szSpanS, laws_szSpanS_b1, h2, h4, h5, hb1, cond_true, cond_false, Step.fin_stop, Step.fin_done, Fin.get_fin, Fin.get_done, Step.fin_next, Bool.not_true, Bool.not_false, Option.getD_some]; done) | (simp [laws_szSpanS, laws_szSpanS_b1, h2, h4, h5, hb1, cond_true, cond_false, Step.fin_stop, Step.fin_done, Fin.get_fin, Fin.get_done, Step.fin_next, Bool.not_true, Bool.not_false, Option.getD_some]; done) | (exfalso; simp_all; done)
          exact congrArg (fun g : Int => AV.one (.v (.int .i64 g))) hg.symm
        · refine x1.go hi1 (v := (laws_szSpan (p0[x1.i]'hi1) x1.s)) (by first | rfl | (simp only [laws_szSpanS_b1, h2, h4, h5, cond_true, cond_false, Bool.not_true, Bool.not_false, Option.getD_some, Step.fin_stop, Step.fin_done, Fin.get_fin, Fin.get_done]; done) | (exfalso; simp_all; done)) [] (by show _ - (x1.i + 1) < _ - x1.i; omega) ?_
          exact ⟨rfl, ⟨rfl, (eqInt hw1), rfl, trivial⟩, trivial, trivial⟩
      · have hf1 := x1.fin (show ¬ x1.i < (p0).length by simpa using h4)
        refine And.intro (fun _ => .v _) ?_
        have hg : laws_szSpanS p0 p1 = x1.s := by
          first | rfl | (simp only [laws_szSpanS, laws_szSpanS_b1, h2, h4, hf1, cond_true, cond_false, Step.fin_stop, Step.fin_done, Fin.get_fin, Fin.get_done, Step.fin_next, Bool.not_true, Bool.not_false, Option.getD_some]; done) | (simp [laws_szSpanS, laws_szSpanS_b1, h2, h4, hf1, cond_true, cond_false, Step.fin_stop, Step.fin_done, Fin.get_fin, Fin.get_done, Step.fin_next, Bool.not_true, Bool.not_false, Option.getD_some]; done) | (exfalso; simp_all; done)
        exact congrArg (fun g : Int => AV.one (.v (.int .i64 g))) hg.symm
theorem szd_laws_szSpanS : Szd (bdS Span.bd) laws_szSpanS := szS_ok (b := laws_szSpanS_b1) szd_laws_szSpan (fun _ _ _ => rfl) (fun _ _ => rfl)
def laws_szTrail (p0 : Trail) (p1 : Int) : Int :=
  (bif (decide ((laws_szSpanS p0.Spans p1) < 0)) then (-1) else (laws_szSpanS p0.Spans p1))
theorem c_laws_szTrail (p0 : Trail) (p1 : Int) : FnOk prog 159 [.agg ((Trail.cells false) p0), .one (.v (.int .i64 p1))] ⟨.one (.v (.int .i64 (laws_szTrail p0 p1))), [], [], false⟩ := by
  refine FnOk.intro (E := env) envOk wide func159 rfl (by kernel_rfl) rfl rfl ?_
  refine litE (m := 0) rfl ?_
  refine ⟨_, _, c_laws_szSpanS p0.Spans p1, (FzAs.same _), ?_⟩
  refine litE (m := 2) rfl ?_
  refine And.intro (fun (h1 : (decide ((laws_szSpanS p0.Spans p1) < 0)) = true) => ?_) (fun (h1 : (decide ((laws_szSpanS p0.Spans p1) < 0)) = false) => ?_)
  · refine And.intro (fun _ => .v _) ?_
    have hg : laws_szTrail p0 p1 = (-1) := by
      first | rfl | (simp only [laws_szTrail, h1, cond_true, cond_false, Step.fin_stop, Step.fin_done, Fin.get_fin, Fin.get_done, Step.fin_next, Bool.not_true, Bool.not_false, Option.getD_some]; done) | (simp [laws_szTrail, h1, cond_true, cond_false, Step.fin_stop, Step.fin_done, Fin.get_fin, Fin.get_done, Step.fin_next, Bool.not_true, Bool.not_false, Option.getD_some]; done) | (exfalso; simp_all; done)
    exact congrArg (fun g : Int => AV.one (.v (.int .i64 g))) hg.symm
  · refine And.intro (fun _ => .v _) ?_
    have hg : laws_szTrail p0 p1 = (laws_szSpanS p0.Spans p1) := by
      first | rfl | (simp only [laws_szTrail, h1, cond_true, cond_false, Step.fin_stop, Step.fin_done, Fin.get_fin, Fin.get_done, Step.fin_next, Bool.not_true, Bool.not_false, Option.getD_some]; done) | (simp [laws_szTrail, h1, cond_true, cond_false, Step.fin_stop, Step.fin_done, Fin.get_fin, Fin.get_done, Step.fin_next, Bool.not_true, Bool.not_false, Option.getD_some]; done) | (exfalso; simp_all; done)
    exact congrArg (fun g : Int => AV.one (.v (.int .i64 g))) hg.symm
theorem szd_laws_szTrail : Szd Trail.bd laws_szTrail := by
  intro x left hb h0 h1 h2
  unfold laws_szTrail at h2 ⊢
  unfold Trail.bd at hb ⊢
  cases c0 : decide ((laws_szSpanS x.Spans left) < 0) with
  | true => simp [c0] at h2
  | false =>
  have p0 : 0 ≤ (laws_szSpanS x.Spans left) := by simpa using c0
  have z0 := szd_laws_szSpanS x.Spans left hb h0 h1 p0
  have b0 := z0.1
  have u0 := z0.2
  have v0 : (laws_szSpanS x.Spans left) ≤ 1048576 := by omega
  simp only [c0, cond_false] at h2 ⊢
  exact ⟨b0, by omega⟩
def laws_szTrailS_b1 (i1 : Nat) (s1 : Int) (a1 : Trail) : Step (Int) Int :=
  (bif (decide ((laws_szTrail a1 s1) < 0)) then (.done (-1)) else (.next (laws_szTrail a1 s1)))
def laws_szTrailS (p0 : (List Trail)) (p1 : Int) : Int :=
  (bif (decide ((IntKind.i64.wrap (p1 - (((p0).length : Nat) : Int))) < 0)) then (-1) else (Fin.get (fun s1 => s1) (loopL laws_szTrailS_b1 0 (IntKind.i64.wrap (p1 - (((p0).length : Nat) : Int))) p0)))
theorem c_laws_szTrailS (p0 : (List Trail)) (p1 : Int) : FnOk prog 87 [.one (.s false 4 (List.map (Trail.cells false) p0)), .one (.v (.int .i64 p1))] ⟨.one (.v (.int .i64 (laws_szTrailS p0 p1))), [], [], false⟩ := by
  refine FnOk.intro (E := env) envOk wide func87 rfl (by kernel_rfl) rfl rfl ?_
  refine lenE (k := (p0).length) (by simp) (fun hN1 => ?_)
  refine And.intro (fun (h2 : (decide ((IntKind.i64.wrap (p1 - (((p0).length : Nat) : Int))) < 0)) = true) => ?_) (fun (h2 : (decide ((IntKind.i64.wrap (p1 - (((p0).length : Nat) : Int))) < 0)) = false) => ?_)
  · refine And.intro (fun _ => .v _) ?_
    have hg : laws_szTrailS p0 p1 = (-1) := by
      first | rfl | (simp only [laws_szTrailS, h2, cond_true, cond_false, Step.fin_stop, Step.fin_done, Fin.get_fin, Fin.get_done, Step.fin_next, Bool.not_true, Bool.not_false, Option.getD_some]; done) | (simp [laws_szTrailS, h2, cond_true, cond_false, Step.fin_stop, Step.fin_done, Fin.get_fin, Fin.get_done, Step.fin_next, Bool.not_true, Bool.not_false, Option.getD_some]; done) | (exfalso; simp_all; done)
    exact congrArg (fun g : Int => AV.one (.v (.int .i64 g))) hg.symm
  · refine loop_rule (α := LstSt laws_szTrailS_b1 (IntKind.i64.wrap (p1 - (((p0).length : Nat) : Int))) p0) [0] (fun x1 => [(1, .one (.v (.int .i64 x1.s))), (5, .one (.v (.int .i64 ((x1.i : Nat) : Int))))]) (fun x1 => []) (fun x1 => (p0).length - x1.i) .init [] ?_ (fun x1 => ?_)
    · exact ⟨rfl, ⟨rfl, rfl, rfl, trivial⟩, trivial, trivial⟩
    · refine lenE (k := (p0).length) (by simp) (fun hN3 => ?_)
      refine And.intro (fun (h4 : (decide (((x1.i : Nat) : Int) < (((p0).length : Nat) : Int))) = true) => ?_) (fun (h4 : (decide (((x1.i : Nat) : Int) < (((p0).length : Nat) : Int))) = false) => ?_)
      · have hi1 : x1.i < (p0).length := by simpa using h4
        have hw1 : IntKind.i64.wrap ((x1.i : Int) + 1) = ((x1.i + 1 : Nat) : Int) := wrap_succ hi1 (by first | assumption | omega)
        refine And.intro (fun _ => by exact idx_at hi1) (rowAtE (i := x1.i) (l := p0) rfl hi1 ?_)
        refine ⟨_, _, c_laws_szTrail (p0[x1.i]'hi1) x1.s, (FzAs.same _), ?_⟩
        refine litE (m := 1) rfl ?_
        refine And.intro (fun (h5 : (decide ((laws_szTrail (p0[x1.i]'hi1) x1.s) < 0)) = true) => ?_) (fun (h5 : (decide ((laws_szTrail (p0[x1.i]'hi1) x1.s) < 0)) = false) => ?_)
        · have hb1 := x1.out hi1 (by first | rfl | (simp only [laws_szTrailS_b1, h2, h4, h5, cond_true, cond_false, Bool.not_true, Bool.not_false, Option.getD_some, Step.isNext_stop, Step.isNext_done, Step.fin_stop, Step.fin_done, Fin.get_fin, Fin.get_done]; done) | (exfalso; simp_all; done))
          refine And.intro (fun _ => .v _) ?_
          have hg : laws_szTrailS p0 p1 = (-1) := by
            first | rfl | (simp only [laws_szTrailS, laws_szTrailS_b1, h2, h4, h5, hb1, cond_true, cond_false, Step.fin_stop, Step.fin_done, Fin.get_fin, Fin.get_done, Step.fin_next, Bool.not_true, Bool.not_false, Option.getD_some]; done) | (simp [laws_szTrailS, laws_szTrailS_b1, h2, h4, h5, hb1, cond_true, cond_false, Step.fin_stop, Step.fin_done, Fin.get_fin, Fin.get_done, Step.fin_next, Bool.not_true, Bool.not_false, Option.getD_some]; done) | (exfalso; simp_all; done)
          exact congrArg (fun g : Int => AV.one (.v (.int .i64 g))) hg.symm
        · refine x1.go hi1 (v := (laws_szTrail (p0[x1.i]'hi1) x1.s)) (by first | rfl | (simp only [laws_szTrailS_b1, h2, h4, h5, cond_true, cond_false, Bool.not_true, Bool.not_false, Option.getD_some, Step.fin_stop, Step.fin_done, Fin.get_fin, Fin.get_done]; done) | (exfalso; simp_all; done)) [] (by show _ - (x1.i + 1) < _ - x1.i; omega) ?_
          exact ⟨rfl, ⟨rfl, (eqInt hw1), rfl, trivial⟩, trivial, trivial⟩
      · have hf1 := x1.fin (show ¬ x1.i < (p0).length by simpa using h4)
        refine And.intro (fun _ => .v _) ?_
        have hg : laws_szTrailS p0 p1 = x1.s := by
          first | rfl | (simp only [laws_szTrailS, laws_szTrailS_b1, h2, h4, hf1, cond_true, cond_false, Step.fin_stop, Step.fin_done, Fin.get_fin, Fin.get_done, Step.fin_next, Bool.not_true, Bool.not_false, Option.getD_some]; done) | (simp [laws_szTrailS, laws_szTrailS_b1, h2, h4, hf1, cond_true, cond_false, Step.fin_stop, Step.fin_done, Fin.get_fin, Fin.get_done, Step.fin_next, Bool.not_true, Bool.not_false, Option.getD_some]; done) | (exfalso; simp_all; done)
        exact congrArg (fun g : Int => AV.one (.v (.int .i64 g))) hg.symm
theorem szd_laws_szTrailS : Szd (bdS Trail.bd) laws_szTrailS := szS_ok (b := laws_szTrailS_b1) szd_laws_szTrail (fun _ _ _ => rfl) (fun _ _ => rfl)
def laws_szVerdictS (p0 : (List Verdict)) (p1 : Int) : Int :=
  (bif (decide ((IntKind.i64.wrap (p1 - (((p0).length : Nat) : Int))) < 0)) then (-1) else (IntKind.i64.wrap (p1 - (((p0).length : Nat) : Int))))
theorem c_laws_szVerdictS (p0 : (List Verdict)) (p1 : Int) : FnOk prog 61 [.one (.s false 3 (List.map Verdict.cells p0)), .one (.v (.int .i64 p1))] ⟨.one (.v (.int .i64 (laws_szVerdictS p0 p1))), [], [], false⟩ := by
  refine FnOk.intro (E := env) envOk wide func61 rfl (by kernel_rfl) rfl rfl ?_
  refine lenE (k := (p0).length) (by simp) (fun hN1 => ?_)
  refine And.intro (fun (h2 : (decide ((IntKind.i64.wrap (p1 - (((p0).length : Nat) : Int))) < 0)) = true) => ?_) (fun (h2 : (decide ((IntKind.i64.wrap (p1 - (((p0).length : Nat) : Int))) < 0)) = false) => ?_)
  · refine And.intro (fun _ => .v _) ?_
    have hg : laws_szVerdictS p0 p1 = (-1) := by
      first | rfl | (simp only [laws_szVerdictS, h2, cond_true, cond_false, Step.fin_stop, Step.fin_done, Fin.get_fin, Fin.get_done, Step.fin_next, Bool.not_true, Bool.not_false, Option.getD_some]; done) | (simp [laws_szVerdictS, h2, cond_true, cond_false, Step.fin_stop, Step.fin_done, Fin.get_fin, Fin.get_done, Step.fin_next, Bool.not_true, Bool.not_false, Option.getD_some]; done) | (exfalso; simp_all; done)
    exact congrArg (fun g : Int => AV.one (.v (.int .i64 g))) hg.symm
  · refine And.intro (fun _ => .v _) ?_
    have hg : laws_szVerdictS p0 p1 = (IntKind.i64.wrap (p1 - (((p0).length : Nat) : Int))) := by
      first | rfl | (simp only [laws_szVerdictS, h2, cond_true, cond_false, Step.fin_stop, Step.fin_done, Fin.get_fin, Fin.get_done, Step.fin_next, Bool.not_true, Bool.not_false, Option.getD_some]; done) | (simp [laws_szVerdictS, h2, cond_true, cond_false, Step.fin_stop, Step.fin_done, Fin.get_fin, Fin.get_done, Step.fin_next, Bool.not_true, Bool.not_false, Option.getD_some]; done) | (exfalso; simp_all; done)
    exact congrArg (fun g : Int => AV.one (.v (.int .i64 g))) hg.symm
theorem szd_laws_szVerdictS : Szd (bdS Verdict.bd) laws_szVerdictS := by
  intro l left hb h0 h1 h2
  unfold laws_szVerdictS at h2 ⊢
  have hl := hb.1
  have hw : IntKind.i64.wrap (left - ((l.length : Nat) : Int)) = left - ((l.length : Nat) : Int) := by rw [Go.Ev.wrap_small] <;> omega
  rw [hw] at h2 ⊢
  cases c : decide (left - ((l.length : Nat) : Int) < 0) with
  | true => rw [c] at h2; simp at h2
  | false =>
    rw [c] at h2
    simp only [cond_false] at h2 ⊢
    have : 0 ≤ left - ((l.length : Nat) : Int) := by simpa using c
    exact ⟨⟨by omega, fun _ _ => trivial⟩, by omega⟩
def laws_szModel (p0 : Model) (p1 : Int) : Int :=
  (bif (decide ((laws_szConf p0.C p1) < 0)) then (-1) else (bif (decide ((laws_szTrailS p0.Open (laws_szConf p0.C p1)) < 0)) then (-1) else (bif (decide ((laws_szVerdictS p0.Cache (laws_szTrailS p0.Open (laws_szConf p0.C p1))) < 0)) then (-1) else (laws_szVerdictS p0.Cache (laws_szTrailS p0.Open (laws_szConf p0.C p1))))))
theorem c_laws_szModel (p0 : Model) (p1 : Int) : FnOk prog 21 [.agg ((Model.cells false) p0), .one (.v (.int .i64 p1))] ⟨.one (.v (.int .i64 (laws_szModel p0 p1))), [], [], false⟩ := by
  refine FnOk.intro (E := env) envOk wide func21 rfl (by kernel_rfl) rfl rfl ?_
  refine litE (m := 0) rfl ?_
  refine ⟨_, _, c_laws_szConf p0.C p1, (FzAs.same _), ?_⟩
  refine litE (m := 2) rfl ?_
  refine And.intro (fun (h1 : (decide ((laws_szConf p0.C p1) < 0)) = true) => ?_) (fun (h1 : (decide ((laws_szConf p0.C p1) < 0)) = false) => ?_)
  · refine And.intro (fun _ => .v _) ?_
    have hg : laws_szModel p0 p1 = (-1) := by
      first | rfl | (simp only [laws_szModel, h1, cond_true, cond_false, Step.fin_stop, Step.fin_done, Fin.get_fin, Fin.get_done, Step.fin_next, Bool.not_true, Bool.not_false, Option.getD_some]; done) | (simp [laws_szModel, h1, cond_true, cond_false, Step.fin_stop, Step.fin_done, Fin.get_fin, Fin.get_done, Step.fin_next, Bool.not_true, Bool.not_false, Option.getD_some]; done) | (exfalso; simp_all; done)
    exact congrArg (fun g : Int => AV.one (.v (.int .i64 g))) hg.symm
  · refine ⟨_, _, c_laws_szTrailS p0.Open (laws_szConf p0.C p1), (FzAs.same _), ?_⟩
    refine litE (m := 3) rfl ?_
    refine And.intro (fun (h2 : (decide ((laws_szTrailS p0.Open (laws_szConf p0.C p1)) < 0)) = true) => ?_) (fun (h2 : (decide ((laws_szTrailS p0.Open (laws_szConf p0.C p1)) < 0)) = false) => ?_)
    · refine And.intro (fun _ => .v _) ?_
      have hg : laws_szModel p0 p1 = (-1) := by
        first | rfl | (simp only [laws_szModel, h1, h2, cond_true, cond_false, Step.fin_stop, Step.fin_done, Fin.get_fin, Fin.get_done, Step.fin_next, Bool.not_true, Bool.not_false, Option.getD_some]; done) | (simp [laws_szModel, h1, h2, cond_true, cond_false, Step.fin_stop, Step.fin_done, Fin.get_fin, Fin.get_done, Step.fin_next, Bool.not_true, Bool.not_false, Option.getD_some]; done) | (exfalso; simp_all; done)
      exact congrArg (fun g : Int => AV.one (.v (.int .i64 g))) hg.symm
    · refine ⟨_, _, c_laws_szVerdictS p0.Cache (laws_szTrailS p0.Open (laws_szConf p0.C p1)), (FzAs.same _), ?_⟩
      refine litE (m := 4) rfl ?_
      refine And.intro (fun (h3 : (decide ((laws_szVerdictS p0.Cache (laws_szTrailS p0.Open (laws_szConf p0.C p1))) < 0)) = true) => ?_) (fun (h3 : (decide ((laws_szVerdictS p0.Cache (laws_szTrailS p0.Open (laws_szConf p0.C p1))) < 0)) = false) => ?_)
      · refine And.intro (fun _ => .v _) ?_
        have hg : laws_szModel p0 p1 = (-1) := by
          first | rfl | (simp only [laws_szModel, h1, h2, h3, cond_true, cond_false, Step.fin_stop, Step.fin_done, Fin.get_fin, Fin.get_done, Step.fin_next, Bool.not_true, Bool.not_false, Option.getD_some]; done) | (simp [laws_szModel, h1, h2, h3, cond_true, cond_false, Step.fin_stop, Step.fin_done, Fin.get_fin, Fin.get_done, Step.fin_next, Bool.not_true, Bool.not_false, Option.getD_some]; done) | (exfalso; simp_all; done)
        exact congrArg (fun g : Int => AV.one (.v (.int .i64 g))) hg.symm
      · refine And.intro (fun _ => .v _) ?_
        have hg : laws_szModel p0 p1 = (laws_szVerdictS p0.Cache (laws_szTrailS p0.Open (laws_szConf p0.C p1))) := by
          first | rfl | (simp only [laws_szModel, h1, h2, h3, cond_true, cond_false, Step.fin_stop, Step.fin_done, Fin.get_fin, Fin.get_done, Step.fin_next, Bool.not_true, Bool.not_false, Option.getD_some]; done) | (simp [laws_szModel, h1, h2, h3, cond_true, cond_false, Step.fin_stop, Step.fin_done, Fin.get_fin, Fin.get_done, Step.fin_next, Bool.not_true, Bool.not_false, Option.getD_some]; done) | (exfalso; simp_all; done)
        exact congrArg (fun g : Int => AV.one (.v (.int .i64 g))) hg.symm
theorem szd_laws_szModel : Szd Model.bd laws_szModel := by
  intro x left hb h0 h1 h2
  unfold laws_szModel at h2 ⊢
  unfold Model.bd at hb ⊢
  cases c0 : decide ((laws_szConf x.C left) < 0) with
  | true => simp [c0] at h2
  | false =>
  have p0 : 0 ≤ (laws_szConf x.C left) := by simpa using c0
  have z0 := szd_laws_szConf x.C left hb.1 h0 h1 p0
  have b0 := z0.1
  have u0 := z0.2
  have v0 : (laws_szConf x.C left) ≤ 1048576 := by omega
  cases c1 : decide ((laws_szTrailS x.Open (laws_szConf x.C left)) < 0) with
  | true => simp [c0, c1] at h2
  | false =>
  have p1 : 0 ≤ (laws_szTrailS x.Open (laws_szConf x.C left)) := by simpa using c1
  have z1 := szd_laws_szTrailS x.Open (laws_szConf x.C left) hb.2.1 p0 v0 p1
  have b1 := z1.1
  have u1 := z1.2
  have v1 : (laws_szTrailS x.Open (laws_szConf x.C left)) ≤ 1048576 := by omega
  cases c2 : decide ((laws_szVerdictS x.Cache (laws_szTrailS x.Open (laws_szConf x.C left))) < 0) with
  | true => simp [c0, c1, c2] at h2
  | false =>
  have p2 : 0 ≤ (laws_szVerdictS x.Cache (laws_szTrailS x.Open (laws_szConf x.C left))) := by simpa using c2
  have z2 := szd_laws_szVerdictS x.Cache (laws_szTrailS x.Open (laws_szConf x.C left)) hb.2.2 p1 v1 p2
  have b2 := z2.1
  have u2 := z2.2
  have v2 : (laws_szVerdictS x.Cache (laws_szTrailS x.Open (laws_szConf x.C left))) ≤ 1048576 := by omega
  simp only [c0, c1, c2, cond_false] at h2 ⊢
  exact ⟨⟨b0, b1, b2⟩, by omega⟩
def laws_toPolS_b1 (r0 : (Pol → Pol)) (i1 : Nat) (s1 : (List Pol)) (a1 : Pol) : Step ((List Pol)) (List Pol) :=
  (.next (List.set s1 i1 (r0 a1)))
def laws_toPolS (r0 : Pol → Pol) (p0 : (List Pol)) : (List Pol) :=
  (Fin.get (fun s1 => s1) (loopL (laws_toPolS_b1 r0) 0 (List.replicate (p0).length (default : Pol)) p0))
theorem c_laws_toPolS (r0 : Pol → Pol) (p0 : (List Pol)) (m0 : Nat) (hrec0 : ∀ (z0 : Pol), Pol.dep z0 < m0 → Pol.bd 1048576 z0 → FnOk prog 122 [.agg (Pol.opn false z0)] ⟨.agg (Pol.opn true (r0 z0)), [], [], false⟩) (hm0 : ∀ x ∈ p0, Pol.dep x < m0) (hs : bdS Pol.bd 1048576 p0) : FnOk prog 180 [.one (.s false 5 (List.map (Pol.cells false) p0))] ⟨.one (.s true 5 (List.map (Pol.cells true) (laws_toPolS r0 p0))), [], [], false⟩ := by
  refine FnOk.intro (E := env) envOk wide func180 rfl (by kernel_rfl) rfl rfl ?_
  have hs1 := hs.1
  refine lenE (k := (p0).length) (by simp) (fun hN1 => ?_)
  refine And.intro (by exact ⟨rfl, by omega, by show ((72 : Nat) : Int) * _ ≤ _; omega, by omega⟩) (rowsE (Y := List.map (Pol.cells true) (List.replicate (p0).length (default : Pol))) (by rw [List.map_replicate]; rfl) ?_)
  refine litE (m := 0) rfl ?_
  refine loop_rule (α := LstInv (fun _ s => (s).length = (p0).length) (laws_toPolS_b1 r0) (List.replicate (p0).length (default : Pol)) p0) [0] (fun x1 => [(3, .one (.n 0 [] 1 0 (x1.s).length)), (4, .one (.v (.int .i64 ((x1.i : Nat) : Int))))]) (fun x1 => [.new ⟨5, false, List.map (Pol.cells true) x1.s, 0⟩]) (fun x1 => (p0).length - x1.i) (.init (by simp)) [some 0] ?_ (fun x1 => ?_)
  · exact ⟨rfl, ⟨⟨rfl, rfl, rfl, rfl, by (first | rfl | (simp; done) | (simp [LstSt.init, LstSt.step, LstInv.init, CntSt.init, CntSt.step, CntInv.init, WhlSt.init, WhlSt.step]; done) | (simp [LstSt.init, LstSt.step, LstInv.init, CntSt.init, CntSt.step, CntInv.init, WhlSt.init, WhlSt.step]; omega))⟩, rfl, rfl, trivial⟩, ⟨⟨rfl, rfl, rfl⟩, trivial⟩, trivial⟩
  · have hI1 : (x1.s).length = (p0).length := by simpa using x1.hI
    refine lenE (k := (p0).length) (by simp) (fun hN2 => ?_)
    refine And.intro (fun (h3 : (decide (((x1.i : Nat) : Int) < (((p0).length : Nat) : Int))) = true) => ?_) (fun (h3 : (decide (((x1.i : Nat) : Int) < (((p0).length : Nat) : Int))) = false) => ?_)
    · have hi1 : x1.i < (p0).length := by simpa using h3
      have hw1 : IntKind.i64.wrap ((x1.i : Int) + 1) = ((x1.i + 1 : Nat) : Int) := wrap_succ hi1 (by first | assumption | omega)
      refine And.intro (fun _ => by (first | omega | (simp; done) | (simp; omega) | (simp at *; omega) | (simp at *; done) | (simp_all; done) | (simp_all; omega))) (rowAtR (Pol.cells_eq false) (i := x1.i) (l := p0) rfl hi1 ?_)
      refine ⟨_, _, hrec0 (p0[x1.i]'hi1) (by first | exact hm0 _ (List.getElem_mem _) | exact hm0 _ (List.mem_of_getElem? (by assumption)) | exact Nat.lt_of_lt_of_le (Pol.dep_lt (List.getElem_mem _)) (Nat.le_of_lt_succ hd0) | exact Nat.lt_of_lt_of_le (Pol.dep_lt (List.mem_of_getElem? (by assumption))) (Nat.le_of_lt_succ hd0)) (by exact hs.get hi1), (FzAs.same _), ?_⟩
      refine litE (m := 2) rfl ?_
      refine And.intro (fun _ => by first | exact ⟨by omega, by omega⟩ | (first | omega | (simp; done) | (simp; omega) | (simp at *; omega) | (simp at *; done) | (simp_all; done) | (simp_all; omega))) ?_
      refine rowsE (Y := List.map (Pol.cells true) (List.set x1.s x1.i (r0 (p0[x1.i]'hi1)))) (by exact setMapE (by simp) (fun a ha => by first | rfl | (simp only [Pol.cells_eq]; rfl))) ?_
      refine x1.go' hi1 (v := (List.set x1.s x1.i (r0 (p0[x1.i]'hi1)))) (by first | rfl | (simp only [laws_toPolS_b1, h3, cond_true, cond_false, Bool.not_true, Bool.not_false, Option.getD_some, Step.fin_stop, Step.fin_done, Fin.get_fin, Fin.get_done]; done) | (exfalso; simp_all; done)) (by simpa using x1.hI) [some 0] (by show _ - (x1.i + 1) < _ - x1.i; omega) ?_
      exact ⟨rfl, ⟨⟨rfl, rfl, rfl, rfl, by (first | rfl | (simp; done) | (simp [LstSt.init, LstSt.step, LstInv.init, CntSt.init, CntSt.step, CntInv.init, WhlSt.init, WhlSt.step]; done) | (simp [LstSt.init, LstSt.step, LstInv.init, CntSt.init, CntSt.step, CntInv.init, WhlSt.init, WhlSt.step]; omega))⟩, (eqInt hw1), rfl, trivial⟩, ⟨⟨rfl, rfl, rfl⟩, trivial⟩, trivial⟩
    · have hf1 := x1.fin (show ¬ x1.i < (p0).length by simpa using h3)
      refine And.intro (fun _ => ownSl own_Pol _) ?_
      have hg : laws_toPolS r0 p0 = x1.s := by
        first | rfl | (simp only [laws_toPolS, laws_toPolS_b1, h3, hf1, cond_true, cond_false, Step.fin_stop, Step.fin_done, Fin.get_fin, Fin.get_done, Step.fin_next, Bool.not_true, Bool.not_false, Option.getD_some]; done) | (simp [laws_toPolS, laws_toPolS_b1, h3, hf1, cond_true, cond_false, Step.fin_stop, Step.fin_done, Fin.get_fin, Fin.get_done, Step.fin_next, Bool.not_true, Bool.not_false, Option.getD_some]; done) | (exfalso; simp_all; done)
      exact congrArg (fun g : (List Pol) => AV.one (.s true 5 (List.map (Pol.cells true) g))) hg.symm
def laws_toPolR : Nat → Pol → Pol
  | 0, _ => default
  | n + 1, p0 => (Pol.mk p0.Kind p0.N p0.Key p0.Text (laws_toPolS (laws_toPolR n) p0.L))
theorem cR_laws_toPol : ∀ (n : Nat) (p0 : Pol), Pol.dep p0 < n → Pol.bd 1048576 p0 → FnOk prog 122 [.agg (Pol.opn false p0)] ⟨.agg (Pol.opn true (laws_toPolR n p0)), [], [], false⟩ := by
  intro n
  induction n with
  | zero => intro p0 hd0; omega
  | succ n ih =>
    intro p0 hd0 hs
    refine FnOk.intro (E := env) envOk wide func122 rfl (by kernel_rfl) rfl rfl ?_
    rw [Pol.bd_eq] at hs
    refine litE (m := 0) rfl ?_
    refine litE (m := 1) rfl ?_
    refine litE (m := 2) rfl ?_
    refine ⟨_, _, c_laws_toPolS (laws_toPolR n) p0.L n ih (by first | exact hm0 | exact fun x hx => Nat.lt_of_lt_of_le (Pol.dep_lt hx) (Nat.le_of_lt_succ hd0)) (by exact hs.2.2), (FzAs.same _), ?_⟩
    refine litE (m := 4) rfl ?_
    refine And.intro (fun _ => ownO_Pol _) ?_
    have hg : (laws_toPolR (n + 1) p0) = (Pol.mk p0.Kind p0.N p0.Key p0.Text (laws_toPolS (laws_toPolR n) p0.L)) := by
      first | rfl | (simp only [laws_toPolR, cond_true, cond_false, Step.fin_stop, Step.fin_done, Fin.get_fin, Fin.get_done, Step.fin_next, Bool.not_true, Bool.not_false, Option.getD_some]; done) | (simp [laws_toPolR, cond_true, cond_false, Step.fin_stop, Step.fin_done, Fin.get_fin, Fin.get_done, Step.fin_next, Bool.not_true, Bool.not_false, Option.getD_some]; done) | (exfalso; simp_all; done)
    exact congrArg (fun g : Pol => AV.agg (Pol.opn true g)) hg.symm
def laws_toPol (p0 : Pol) : Pol := laws_toPolR (Pol.dep p0 + 1) p0
theorem c_laws_toPol (p0 : Pol) (hs : Pol.bd 1048576 p0) : FnOk prog 122 [.agg (Pol.opn false p0)] ⟨.agg (Pol.opn true (laws_toPol p0)), [], [], false⟩ := cR_laws_toPol _ p0 (Nat.lt_succ_self _) hs
theorem idR_laws_toPol : ∀ (n : Nat) (x : Pol), Pol.dep x < n → laws_toPolR n x = x := by
  intro n
  induction n with
  | zero => intro x h; omega
  | succ n ih =>
    intro x h
    have e : laws_toPolS (laws_toPolR n) x.L = x.L := setS_okM (b := laws_toPolS_b1 (laws_toPolR n)) x.L (fun a ha => ih a (Nat.lt_of_lt_of_le (Pol.dep_lt ha) (Nat.le_of_lt_succ h))) (fun _ _ _ => rfl) (fun _ => rfl)
    cases x
    simp only [laws_toPolR]
    simp only at e
    rw [e]
theorem id_laws_toPol (x : Pol) : laws_toPol x = x := idR_laws_toPol _ x (Nat.lt_succ_self _)
def laws_toConf (p0 : Conf) : Conf :=
  (Conf.mk p0.Stripes p0.Wait p0.Budget p0.Cache p0.Queue p0.Rate p0.Burst (laws_toPol p0.Rule))
theorem c_laws_toConf (p0 : Conf) (hs : Conf.bd 1048576 p0) : FnOk prog 51 [.agg ((Conf.cells false) p0)] ⟨.agg ((Conf.cells true) (laws_toConf p0)), [], [], false⟩ := by
  refine FnOk.intro (E := env) envOk wide func51 rfl (by kernel_rfl) rfl rfl ?_
  unfold Conf.bd at hs
  refine litE (m := 0) rfl ?_
  refine litE (m := 1) rfl ?_
  refine litE (m := 2) rfl ?_
  refine ⟨_, _, c_laws_toPol p0.Rule (by exact hs), (FzAs.same _), ?_⟩
  refine litE (m := 4) rfl ?_
  refine And.intro (fun _ => own_Conf _) ?_
  have hg : laws_toConf p0 = (Conf.mk p0.Stripes p0.Wait p0.Budget p0.Cache p0.Queue p0.Rate p0.Burst (laws_toPol p0.Rule)) := by
    first | rfl | (simp only [laws_toConf, cond_true, cond_false, Step.fin_stop, Step.fin_done, Fin.get_fin, Fin.get_done, Step.fin_next, Bool.not_true, Bool.not_false, Option.getD_some]; done) | (simp [laws_toConf, cond_true, cond_false, Step.fin_stop, Step.fin_done, Fin.get_fin, Fin.get_done, Step.fin_next, Bool.not_true, Bool.not_false, Option.getD_some]; done) | (exfalso; simp_all; done)
  exact congrArg (fun g : Conf => AV.agg ((Conf.cells true) g)) hg.symm
theorem id_laws_toConf (x : Conf) : laws_toConf x = x := by
  first | rfl | (simp only [laws_toConf, id_laws_toPol]; done) | (simp only [laws_toConf, id_laws_toPol]; rfl)
def laws_toAttr (p0 : Attr) : Attr :=
  p0
theorem c_laws_toAttr (p0 : Attr) : FnOk prog 226 [.agg (Attr.cells p0)] ⟨.agg (Attr.cells (laws_toAttr p0)), [], [], false⟩ := by
  refine FnOk.intro (E := env) envOk wide func226 rfl (by kernel_rfl) rfl rfl ?_
  refine litE (m := 0) rfl ?_
  refine litE (m := 1) rfl ?_
  refine litE (m := 2) rfl ?_
  refine And.intro (fun _ => own_Attr _) ?_
  have hg : laws_toAttr p0 = p0 := by
    first | rfl | (simp only [laws_toAttr, cond_true, cond_false, Step.fin_stop, Step.fin_done, Fin.get_fin, Fin.get_done, Step.fin_next, Bool.not_true, Bool.not_false, Option.getD_some]; done) | (simp [laws_toAttr, cond_true, cond_false, Step.fin_stop, Step.fin_done, Fin.get_fin, Fin.get_done, Step.fin_next, Bool.not_true, Bool.not_false, Option.getD_some]; done) | (exfalso; simp_all; done)
  exact congrArg (fun g : Attr => AV.agg (Attr.cells g)) hg.symm
theorem id_laws_toAttr (x : Attr) : laws_toAttr x = x := by
  first | rfl | (simp only [laws_toAttr]; done) | (simp only [laws_toAttr]; rfl)
def laws_toAttrS_b1 (i1 : Nat) (s1 : (List Attr)) (a1 : Attr) : Step ((List Attr)) (List Attr) :=
  (.next (List.set s1 i1 (laws_toAttr a1)))
def laws_toAttrS (p0 : (List Attr)) : (List Attr) :=
  (Fin.get (fun s1 => s1) (loopL laws_toAttrS_b1 0 (List.replicate (p0).length (default : Attr)) p0))
theorem c_laws_toAttrS (p0 : (List Attr)) (hs : bdS Attr.bd 1048576 p0) : FnOk prog 201 [.one (.s false 4 (List.map Attr.cells p0))] ⟨.one (.s true 4 (List.map Attr.cells (laws_toAttrS p0))), [], [], false⟩ := by
  refine FnOk.intro (E := env) envOk wide func201 rfl (by kernel_rfl) rfl rfl ?_
  have hs1 := hs.1
  refine lenE (k := (p0).length) (by simp) (fun hN1 => ?_)
  refine And.intro (by exact ⟨rfl, by omega, by show ((48 : Nat) : Int) * _ ≤ _; omega, by omega⟩) (rowsE (Y := List.map Attr.cells (List.replicate (p0).length (default : Attr))) (by rw [List.map_replicate]; rfl) ?_)
  refine litE (m := 0) rfl ?_
  refine loop_rule (α := LstInv (fun _ s => (s).length = (p0).length) laws_toAttrS_b1 (List.replicate (p0).length (default : Attr)) p0) [0] (fun x1 => [(3, .one (.n 0 [] 1 0 (x1.s).length)), (4, .one (.v (.int .i64 ((x1.i : Nat) : Int))))]) (fun x1 => [.new ⟨4, false, List.map Attr.cells x1.s, 0⟩]) (fun x1 => (p0).length - x1.i) (.init (by simp)) [some 0] ?_ (fun x1 => ?_)
  · exact ⟨rfl, ⟨⟨rfl, rfl, rfl, rfl, by (first | rfl | (simp; done) | (simp [LstSt.init, LstSt.step, LstInv.init, CntSt.init, CntSt.step, CntInv.init, WhlSt.init, WhlSt.step]; done) | (simp [LstSt.init, LstSt.step, LstInv.init, CntSt.init, CntSt.step, CntInv.init, WhlSt.init, WhlSt.step]; omega))⟩, rfl, rfl, trivial⟩, ⟨⟨rfl, rfl, rfl⟩, trivial⟩, trivial⟩
  · have hI1 : (x1.s).length = (p0).length := by simpa using x1.hI
    refine lenE (k := (p0).length) (by simp) (fun hN2 => ?_)
    refine And.intro (fun (h3 : (decide (((x1.i : Nat) : Int) < (((p0).length : Nat) : Int))) = true) => ?_) (fun (h3 : (decide (((x1.i : Nat) : Int) < (((p0).length : Nat) : Int))) = false) => ?_)
    · have hi1 : x1.i < (p0).length := by simpa using h3
      have hw1 : IntKind.i64.wrap ((x1.i : Int) + 1) = ((x1.i + 1 : Nat) : Int) := wrap_succ hi1 (by first | assumption | omega)
      refine And.intro (fun _ => by exact idx_at hi1) (rowAtE (i := x1.i) (l := p0) rfl hi1 ?_)
      refine ⟨_, _, c_laws_toAttr (p0[x1.i]'hi1), (FzAs.same _), ?_⟩
      refine litE (m := 2) rfl ?_
      refine And.intro (fun _ => by first | exact ⟨by omega, by omega⟩ | (first | omega | (simp; done) | (simp; omega) | (simp at *; omega) | (simp at *; done) | (simp_all; done) | (simp_all; omega))) ?_
      refine rowsE (Y := List.map Attr.cells (List.set x1.s x1.i (laws_toAttr (p0[x1.i]'hi1)))) (by exact setMapE (by simp) (fun a ha => by first | rfl | (simp only [Pol.cells_eq]; rfl))) ?_
      refine x1.go' hi1 (v := (List.set x1.s x1.i (laws_toAttr (p0[x1.i]'hi1)))) (by first | rfl | (simp only [laws_toAttrS_b1, h3, cond_true, cond_false, Bool.not_true, Bool.not_false, Option.getD_some, Step.fin_stop, Step.fin_done, Fin.get_fin, Fin.get_done]; done) | (exfalso; simp_all; done)) (by simpa using x1.hI) [some 0] (by show _ - (x1.i + 1) < _ - x1.i; omega) ?_
      exact ⟨rfl, ⟨⟨rfl, rfl, rfl, rfl, by (first | rfl | (simp; done) | (simp [LstSt.init, LstSt.step, LstInv.init, CntSt.init, CntSt.step, CntInv.init, WhlSt.init, WhlSt.step]; done) | (simp [LstSt.init, LstSt.step, LstInv.init, CntSt.init, CntSt.step, CntInv.init, WhlSt.init, WhlSt.step]; omega))⟩, (eqInt hw1), rfl, trivial⟩, ⟨⟨rfl, rfl, rfl⟩, trivial⟩, trivial⟩
    · have hf1 := x1.fin (show ¬ x1.i < (p0).length by simpa using h3)
      refine And.intro (fun _ => ownSl own_Attr _) ?_
      have hg : laws_toAttrS p0 = x1.s := by
        first | rfl | (simp only [laws_toAttrS, laws_toAttrS_b1, h3, hf1, cond_true, cond_false, Step.fin_stop, Step.fin_done, Fin.get_fin, Fin.get_done, Step.fin_next, Bool.not_true, Bool.not_false, Option.getD_some]; done) | (simp [laws_toAttrS, laws_toAttrS_b1, h3, hf1, cond_true, cond_false, Step.fin_stop, Step.fin_done, Fin.get_fin, Fin.get_done, Step.fin_next, Bool.not_true, Bool.not_false, Option.getD_some]; done) | (exfalso; simp_all; done)
      exact congrArg (fun g : (List Attr) => AV.one (.s true 4 (List.map Attr.cells g))) hg.symm
theorem id_laws_toAttrS (x : (List Attr)) : laws_toAttrS x = x := setS_ok (b := laws_toAttrS_b1) id_laws_toAttr (fun _ _ _ => rfl) (fun _ => rfl) x
def laws_toSpan (p0 : Span) : Span :=
  (Span.mk p0.Trace p0.Id p0.Start p0.End p0.Err (laws_toAttrS p0.Attrs))
theorem c_laws_toSpan (p0 : Span) (hs : Span.bd 1048576 p0) : FnOk prog 172 [.agg ((Span.cells false) p0)] ⟨.agg ((Span.cells true) (laws_toSpan p0)), [], [], false⟩ := by
  refine FnOk.intro (E := env) envOk wide func172 rfl (by kernel_rfl) rfl rfl ?_
  unfold Span.bd at hs
  refine litE (m := 0) rfl ?_
  refine litE (m := 1) rfl ?_
  refine litE (m := 2) rfl ?_
  refine ⟨_, _, c_laws_toAttrS p0.Attrs (by exact hs), (FzAs.same _), ?_⟩
  refine litE (m := 4) rfl ?_
  refine And.intro (fun _ => own_Span _) ?_
  have hg : laws_toSpan p0 = (Span.mk p0.Trace p0.Id p0.Start p0.End p0.Err (laws_toAttrS p0.Attrs)) := by
    first | rfl | (simp only [laws_toSpan, cond_true, cond_false, Step.fin_stop, Step.fin_done, Fin.get_fin, Fin.get_done, Step.fin_next, Bool.not_true, Bool.not_false, Option.getD_some]; done) | (simp [laws_toSpan, cond_true, cond_false, Step.fin_stop, Step.fin_done, Fin.get_fin, Fin.get_done, Step.fin_next, Bool.not_true, Bool.not_false, Option.getD_some]; done) | (exfalso; simp_all; done)
  exact congrArg (fun g : Span => AV.agg ((Span.cells true) g)) hg.symm
theorem id_laws_toSpan (x : Span) : laws_toSpan x = x := by
  first | rfl | (simp only [laws_toSpan, id_laws_toAttrS]; done) | (simp only [laws_toSpan, id_laws_toAttrS]; rfl)
def laws_toSpanS_b1 (i1 : Nat) (s1 : (List Span)) (a1 : Span) : Step ((List Span)) (List Span) :=
  (.next (List.set s1 i1 (laws_toSpan a1)))
def laws_toSpanS (p0 : (List Span)) : (List Span) :=
  (Fin.get (fun s1 => s1) (loopL laws_toSpanS_b1 0 (List.replicate (p0).length (default : Span)) p0))
theorem c_laws_toSpanS (p0 : (List Span)) (hs : bdS Span.bd 1048576 p0) : FnOk prog 194 [.one (.s false 6 (List.map (Span.cells false) p0))] ⟨.one (.s true 6 (List.map (Span.cells true) (laws_toSpanS p0))), [], [], false⟩ := by
  refine FnOk.intro (E := env) envOk wide func194 rfl (by kernel_rfl) rfl rfl ?_
  have hs1 := hs.1
  refine lenE (k := (p0).length) (by simp) (fun hN1 => ?_)
  refine And.intro (by exact ⟨rfl, by omega, by show ((64 : Nat) : Int) * _ ≤ _; omega, by omega⟩) (rowsE (Y := List.map (Span.cells true) (List.replicate (p0).length (default : Span))) (by rw [List.map_replicate]; rfl) ?_)
  refine litE (m := 0) rfl ?_
  refine loop_rule (α := LstInv (fun _ s => (s).length = (p0).length) laws_toSpanS_b1 (List.replicate (p0).length (default : Span)) p0) [0] (fun x1 => [(3, .one (.n 0 [] 1 0 (x1.s).length)), (4, .one (.v (.int .i64 ((x1.i : Nat) : Int))))]) (fun x1 => [.new ⟨6, false, List.map (Span.cells true) x1.s, 0⟩]) (fun x1 => (p0).length - x1.i) (.init (by simp)) [some 0] ?_ (fun x1 => ?_)
  · exact ⟨rfl, ⟨⟨rfl, rfl, rfl, rfl, by (first | rfl | (simp; done) | (simp [LstSt.init, LstSt.step, LstInv.init, CntSt.init, CntSt.step, CntInv.init, WhlSt.init, WhlSt.step]; done) | (simp [LstSt.init, LstSt.step, LstInv.init, CntSt.init, CntSt.step, CntInv.init, WhlSt.init, WhlSt.step]; omega))⟩, rfl, rfl, trivial⟩, ⟨⟨rfl, rfl, rfl⟩, trivial⟩, trivial⟩
  · have hI1 : (x1.s).length = (p0).length := by simpa using x1.hI
    refine lenE (k := (p0).length) (by simp) (fun hN2 => ?_)
    refine And.intro (fun (h3 : (decide (((x1.i : Nat) : Int) < (((p0).length : Nat) : Int))) = true) => ?_) (fun (h3 : (decide (((x1.i : Nat) : Int) < (((p0).length : Nat) : Int))) = false) => ?_)
    · have hi1 : x1.i < (p0).length := by simpa using h3
      have hw1 : IntKind.i64.wrap ((x1.i : Int) + 1) = ((x1.i + 1 : Nat) : Int) := wrap_succ hi1 (by first | assumption | omega)
      refine And.intro (fun _ => by exact idx_at hi1) (rowAtE (i := x1.i) (l := p0) rfl hi1 ?_)
      refine ⟨_, _, c_laws_toSpan (p0[x1.i]'hi1) (by exact hs.get hi1), (FzAs.same _), ?_⟩
      refine litE (m := 2) rfl ?_
      refine And.intro (fun _ => by first | exact ⟨by omega, by omega⟩ | (first | omega | (simp; done) | (simp; omega) | (simp at *; omega) | (simp at *; done) | (simp_all; done) | (simp_all; omega))) ?_
      refine rowsE (Y := List.map (Span.cells true) (List.set x1.s x1.i (laws_toSpan (p0[x1.i]'hi1)))) (by exact setMapE (by simp) (fun a ha => by first | rfl | (simp only [Pol.cells_eq]; rfl))) ?_
      refine x1.go' hi1 (v := (List.set x1.s x1.i (laws_toSpan (p0[x1.i]'hi1)))) (by first | rfl | (simp only [laws_toSpanS_b1, h3, cond_true, cond_false, Bool.not_true, Bool.not_false, Option.getD_some, Step.fin_stop, Step.fin_done, Fin.get_fin, Fin.get_done]; done) | (exfalso; simp_all; done)) (by simpa using x1.hI) [some 0] (by show _ - (x1.i + 1) < _ - x1.i; omega) ?_
      exact ⟨rfl, ⟨⟨rfl, rfl, rfl, rfl, by (first | rfl | (simp; done) | (simp [LstSt.init, LstSt.step, LstInv.init, CntSt.init, CntSt.step, CntInv.init, WhlSt.init, WhlSt.step]; done) | (simp [LstSt.init, LstSt.step, LstInv.init, CntSt.init, CntSt.step, CntInv.init, WhlSt.init, WhlSt.step]; omega))⟩, (eqInt hw1), rfl, trivial⟩, ⟨⟨rfl, rfl, rfl⟩, trivial⟩, trivial⟩
    · have hf1 := x1.fin (show ¬ x1.i < (p0).length by simpa using h3)
      refine And.intro (fun _ => ownSl own_Span _) ?_
      have hg : laws_toSpanS p0 = x1.s := by
        first | rfl | (simp only [laws_toSpanS, laws_toSpanS_b1, h3, hf1, cond_true, cond_false, Step.fin_stop, Step.fin_done, Fin.get_fin, Fin.get_done, Step.fin_next, Bool.not_true, Bool.not_false, Option.getD_some]; done) | (simp [laws_toSpanS, laws_toSpanS_b1, h3, hf1, cond_true, cond_false, Step.fin_stop, Step.fin_done, Fin.get_fin, Fin.get_done, Step.fin_next, Bool.not_true, Bool.not_false, Option.getD_some]; done) | (exfalso; simp_all; done)
      exact congrArg (fun g : (List Span) => AV.one (.s true 6 (List.map (Span.cells true) g))) hg.symm
theorem id_laws_toSpanS (x : (List Span)) : laws_toSpanS x = x := setS_ok (b := laws_toSpanS_b1) id_laws_toSpan (fun _ _ _ => rfl) (fun _ => rfl) x
def laws_toTrail (p0 : Trail) : Trail :=
  (Trail.mk p0.Id p0.Stamp p0.First (laws_toSpanS p0.Spans))
theorem c_laws_toTrail (p0 : Trail) (hs : Trail.bd 1048576 p0) : FnOk prog 164 [.agg ((Trail.cells false) p0)] ⟨.agg ((Trail.cells true) (laws_toTrail p0)), [], [], false⟩ := by
  refine FnOk.intro (E := env) envOk wide func164 rfl (by kernel_rfl) rfl rfl ?_
  unfold Trail.bd at hs
  refine litE (m := 0) rfl ?_
  refine litE (m := 1) rfl ?_
  refine litE (m := 2) rfl ?_
  refine ⟨_, _, c_laws_toSpanS p0.Spans (by exact hs), (FzAs.same _), ?_⟩
  refine litE (m := 4) rfl ?_
  refine And.intro (fun _ => own_Trail _) ?_
  have hg : laws_toTrail p0 = (Trail.mk p0.Id p0.Stamp p0.First (laws_toSpanS p0.Spans)) := by
    first | rfl | (simp only [laws_toTrail, cond_true, cond_false, Step.fin_stop, Step.fin_done, Fin.get_fin, Fin.get_done, Step.fin_next, Bool.not_true, Bool.not_false, Option.getD_some]; done) | (simp [laws_toTrail, cond_true, cond_false, Step.fin_stop, Step.fin_done, Fin.get_fin, Fin.get_done, Step.fin_next, Bool.not_true, Bool.not_false, Option.getD_some]; done) | (exfalso; simp_all; done)
  exact congrArg (fun g : Trail => AV.agg ((Trail.cells true) g)) hg.symm
theorem id_laws_toTrail (x : Trail) : laws_toTrail x = x := by
  first | rfl | (simp only [laws_toTrail, id_laws_toSpanS]; done) | (simp only [laws_toTrail, id_laws_toSpanS]; rfl)
def laws_toTrailS_b1 (i1 : Nat) (s1 : (List Trail)) (a1 : Trail) : Step ((List Trail)) (List Trail) :=
  (.next (List.set s1 i1 (laws_toTrail a1)))
def laws_toTrailS (p0 : (List Trail)) : (List Trail) :=
  (Fin.get (fun s1 => s1) (loopL laws_toTrailS_b1 0 (List.replicate (p0).length (default : Trail)) p0))
theorem c_laws_toTrailS (p0 : (List Trail)) (hs : bdS Trail.bd 1048576 p0) : FnOk prog 94 [.one (.s false 4 (List.map (Trail.cells false) p0))] ⟨.one (.s true 4 (List.map (Trail.cells true) (laws_toTrailS p0))), [], [], false⟩ := by
  refine FnOk.intro (E := env) envOk wide func94 rfl (by kernel_rfl) rfl rfl ?_
  have hs1 := hs.1
  refine lenE (k := (p0).length) (by simp) (fun hN1 => ?_)
  refine And.intro (by exact ⟨rfl, by omega, by show ((48 : Nat) : Int) * _ ≤ _; omega, by omega⟩) (rowsE (Y := List.map (Trail.cells true) (List.replicate (p0).length (default : Trail))) (by rw [List.map_replicate]; rfl) ?_)
  refine litE (m := 0) rfl ?_
  refine loop_rule (α := LstInv (fun _ s => (s).length = (p0).length) laws_toTrailS_b1 (List.replicate (p0).length (default : Trail)) p0) [0] (fun x1 => [(3, .one (.n 0 [] 1 0 (x1.s).length)), (4, .one (.v (.int .i64 ((x1.i : Nat) : Int))))]) (fun x1 => [.new ⟨4, false, List.map (Trail.cells true) x1.s, 0⟩]) (fun x1 => (p0).length - x1.i) (.init (by simp)) [some 0] ?_ (fun x1 => ?_)
  · exact ⟨rfl, ⟨⟨rfl, rfl, rfl, rfl, by (first | rfl | (simp; done) | (simp [LstSt.init, LstSt.step, LstInv.init, CntSt.init, CntSt.step, CntInv.init, WhlSt.init, WhlSt.step]; done) | (simp [LstSt.init, LstSt.step, LstInv.init, CntSt.init, CntSt.step, CntInv.init, WhlSt.init, WhlSt.step]; omega))⟩, rfl, rfl, trivial⟩, ⟨⟨rfl, rfl, rfl⟩, trivial⟩, trivial⟩
  · have hI1 : (x1.s).length = (p0).length := by simpa using x1.hI
    refine lenE (k := (p0).length) (by simp) (fun hN2 => ?_)
    refine And.intro (fun (h3 : (decide (((x1.i : Nat) : Int) < (((p0).length : Nat) : Int))) = true) => ?_) (fun (h3 : (decide (((x1.i : Nat) : Int) < (((p0).length : Nat) : Int))) = false) => ?_)
    · have hi1 : x1.i < (p0).length := by simpa using h3
      have hw1 : IntKind.i64.wrap ((x1.i : Int) + 1) = ((x1.i + 1 : Nat) : Int) := wrap_succ hi1 (by first | assumption | omega)
      refine And.intro (fun _ => by exact idx_at hi1) (rowAtE (i := x1.i) (l := p0) rfl hi1 ?_)
      refine ⟨_, _, c_laws_toTrail (p0[x1.i]'hi1) (by exact hs.get hi1), (FzAs.same _), ?_⟩
      refine litE (m := 2) rfl ?_
      refine And.intro (fun _ => by first | exact ⟨by omega, by omega⟩ | (first | omega | (simp; done) | (simp; omega) | (simp at *; omega) | (simp at *; done) | (simp_all; done) | (simp_all; omega))) ?_
      refine rowsE (Y := List.map (Trail.cells true) (List.set x1.s x1.i (laws_toTrail (p0[x1.i]'hi1)))) (by exact setMapE (by simp) (fun a ha => by first | rfl | (simp only [Pol.cells_eq]; rfl))) ?_
      refine x1.go' hi1 (v := (List.set x1.s x1.i (laws_toTrail (p0[x1.i]'hi1)))) (by first | rfl | (simp only [laws_toTrailS_b1, h3, cond_true, cond_false, Bool.not_true, Bool.not_false, Option.getD_some, Step.fin_stop, Step.fin_done, Fin.get_fin, Fin.get_done]; done) | (exfalso; simp_all; done)) (by simpa using x1.hI) [some 0] (by show _ - (x1.i + 1) < _ - x1.i; omega) ?_
      exact ⟨rfl, ⟨⟨rfl, rfl, rfl, rfl, by (first | rfl | (simp; done) | (simp [LstSt.init, LstSt.step, LstInv.init, CntSt.init, CntSt.step, CntInv.init, WhlSt.init, WhlSt.step]; done) | (simp [LstSt.init, LstSt.step, LstInv.init, CntSt.init, CntSt.step, CntInv.init, WhlSt.init, WhlSt.step]; omega))⟩, (eqInt hw1), rfl, trivial⟩, ⟨⟨rfl, rfl, rfl⟩, trivial⟩, trivial⟩
    · have hf1 := x1.fin (show ¬ x1.i < (p0).length by simpa using h3)
      refine And.intro (fun _ => ownSl own_Trail _) ?_
      have hg : laws_toTrailS p0 = x1.s := by
        first | rfl | (simp only [laws_toTrailS, laws_toTrailS_b1, h3, hf1, cond_true, cond_false, Step.fin_stop, Step.fin_done, Fin.get_fin, Fin.get_done, Step.fin_next, Bool.not_true, Bool.not_false, Option.getD_some]; done) | (simp [laws_toTrailS, laws_toTrailS_b1, h3, hf1, cond_true, cond_false, Step.fin_stop, Step.fin_done, Fin.get_fin, Fin.get_done, Step.fin_next, Bool.not_true, Bool.not_false, Option.getD_some]; done) | (exfalso; simp_all; done)
      exact congrArg (fun g : (List Trail) => AV.one (.s true 4 (List.map (Trail.cells true) g))) hg.symm
theorem id_laws_toTrailS (x : (List Trail)) : laws_toTrailS x = x := setS_ok (b := laws_toTrailS_b1) id_laws_toTrail (fun _ _ _ => rfl) (fun _ => rfl) x
def laws_toVerdict (p0 : Verdict) : Verdict :=
  p0
theorem c_laws_toVerdict (p0 : Verdict) : FnOk prog 145 [.agg (Verdict.cells p0)] ⟨.agg (Verdict.cells (laws_toVerdict p0)), [], [], false⟩ := by
  refine FnOk.intro (E := env) envOk wide func145 rfl (by kernel_rfl) rfl rfl ?_
  refine litE (m := 0) rfl ?_
  refine litE (m := 1) rfl ?_
  refine litE (m := 2) rfl ?_
  refine And.intro (fun _ => own_Verdict _) ?_
  have hg : laws_toVerdict p0 = p0 := by
    first | rfl | (simp only [laws_toVerdict, cond_true, cond_false, Step.fin_stop, Step.fin_done, Fin.get_fin, Fin.get_done, Step.fin_next, Bool.not_true, Bool.not_false, Option.getD_some]; done) | (simp [laws_toVerdict, cond_true, cond_false, Step.fin_stop, Step.fin_done, Fin.get_fin, Fin.get_done, Step.fin_next, Bool.not_true, Bool.not_false, Option.getD_some]; done) | (exfalso; simp_all; done)
  exact congrArg (fun g : Verdict => AV.agg (Verdict.cells g)) hg.symm
theorem id_laws_toVerdict (x : Verdict) : laws_toVerdict x = x := by
  first | rfl | (simp only [laws_toVerdict]; done) | (simp only [laws_toVerdict]; rfl)
def laws_toVerdictS_b1 (i1 : Nat) (s1 : (List Verdict)) (a1 : Verdict) : Step ((List Verdict)) (List Verdict) :=
  (.next (List.set s1 i1 (laws_toVerdict a1)))
def laws_toVerdictS (p0 : (List Verdict)) : (List Verdict) :=
  (Fin.get (fun s1 => s1) (loopL laws_toVerdictS_b1 0 (List.replicate (p0).length (default : Verdict)) p0))
theorem c_laws_toVerdictS (p0 : (List Verdict)) (hs : bdS Verdict.bd 1048576 p0) : FnOk prog 70 [.one (.s false 3 (List.map Verdict.cells p0))] ⟨.one (.s true 3 (List.map Verdict.cells (laws_toVerdictS p0))), [], [], false⟩ := by
  refine FnOk.intro (E := env) envOk wide func70 rfl (by kernel_rfl) rfl rfl ?_
  have hs1 := hs.1
  refine lenE (k := (p0).length) (by simp) (fun hN1 => ?_)
  refine And.intro (by exact ⟨rfl, by omega, by show ((24 : Nat) : Int) * _ ≤ _; omega, by omega⟩) (rowsE (Y := List.map Verdict.cells (List.replicate (p0).length (default : Verdict))) (by rw [List.map_replicate]; rfl) ?_)
  refine litE (m := 0) rfl ?_
  refine loop_rule (α := LstInv (fun _ s => (s).length = (p0).length) laws_toVerdictS_b1 (List.replicate (p0).length (default : Verdict)) p0) [0] (fun x1 => [(3, .one (.n 0 [] 1 0 (x1.s).length)), (4, .one (.v (.int .i64 ((x1.i : Nat) : Int))))]) (fun x1 => [.new ⟨3, false, List.map Verdict.cells x1.s, 0⟩]) (fun x1 => (p0).length - x1.i) (.init (by simp)) [some 0] ?_ (fun x1 => ?_)
  · exact ⟨rfl, ⟨⟨rfl, rfl, rfl, rfl, by (first | rfl | (simp; done) | (simp [LstSt.init, LstSt.step, LstInv.init, CntSt.init, CntSt.step, CntInv.init, WhlSt.init, WhlSt.step]; done) | (simp [LstSt.init, LstSt.step, LstInv.init, CntSt.init, CntSt.step, CntInv.init, WhlSt.init, WhlSt.step]; omega))⟩, rfl, rfl, trivial⟩, ⟨⟨rfl, rfl, rfl⟩, trivial⟩, trivial⟩
  · have hI1 : (x1.s).length = (p0).length := by simpa using x1.hI
    refine lenE (k := (p0).length) (by simp) (fun hN2 => ?_)
    refine And.intro (fun (h3 : (decide (((x1.i : Nat) : Int) < (((p0).length : Nat) : Int))) = true) => ?_) (fun (h3 : (decide (((x1.i : Nat) : Int) < (((p0).length : Nat) : Int))) = false) => ?_)
    · have hi1 : x1.i < (p0).length := by simpa using h3
      have hw1 : IntKind.i64.wrap ((x1.i : Int) + 1) = ((x1.i + 1 : Nat) : Int) := wrap_succ hi1 (by first | assumption | omega)
      refine And.intro (fun _ => by exact idx_at hi1) (rowAtE (i := x1.i) (l := p0) rfl hi1 ?_)
      refine ⟨_, _, c_laws_toVerdict (p0[x1.i]'hi1), (FzAs.same _), ?_⟩
      refine litE (m := 2) rfl ?_
      refine And.intro (fun _ => by first | exact ⟨by omega, by omega⟩ | (first | omega | (simp; done) | (simp; omega) | (simp at *; omega) | (simp at *; done) | (simp_all; done) | (simp_all; omega))) ?_
      refine rowsE (Y := List.map Verdict.cells (List.set x1.s x1.i (laws_toVerdict (p0[x1.i]'hi1)))) (by exact setMapE (by simp) (fun a ha => by first | rfl | (simp only [Pol.cells_eq]; rfl))) ?_
      refine x1.go' hi1 (v := (List.set x1.s x1.i (laws_toVerdict (p0[x1.i]'hi1)))) (by first | rfl | (simp only [laws_toVerdictS_b1, h3, cond_true, cond_false, Bool.not_true, Bool.not_false, Option.getD_some, Step.fin_stop, Step.fin_done, Fin.get_fin, Fin.get_done]; done) | (exfalso; simp_all; done)) (by simpa using x1.hI) [some 0] (by show _ - (x1.i + 1) < _ - x1.i; omega) ?_
      exact ⟨rfl, ⟨⟨rfl, rfl, rfl, rfl, by (first | rfl | (simp; done) | (simp [LstSt.init, LstSt.step, LstInv.init, CntSt.init, CntSt.step, CntInv.init, WhlSt.init, WhlSt.step]; done) | (simp [LstSt.init, LstSt.step, LstInv.init, CntSt.init, CntSt.step, CntInv.init, WhlSt.init, WhlSt.step]; omega))⟩, (eqInt hw1), rfl, trivial⟩, ⟨⟨rfl, rfl, rfl⟩, trivial⟩, trivial⟩
    · have hf1 := x1.fin (show ¬ x1.i < (p0).length by simpa using h3)
      refine And.intro (fun _ => ownSl own_Verdict _) ?_
      have hg : laws_toVerdictS p0 = x1.s := by
        first | rfl | (simp only [laws_toVerdictS, laws_toVerdictS_b1, h3, hf1, cond_true, cond_false, Step.fin_stop, Step.fin_done, Fin.get_fin, Fin.get_done, Step.fin_next, Bool.not_true, Bool.not_false, Option.getD_some]; done) | (simp [laws_toVerdictS, laws_toVerdictS_b1, h3, hf1, cond_true, cond_false, Step.fin_stop, Step.fin_done, Fin.get_fin, Fin.get_done, Step.fin_next, Bool.not_true, Bool.not_false, Option.getD_some]; done) | (exfalso; simp_all; done)
      exact congrArg (fun g : (List Verdict) => AV.one (.s true 3 (List.map Verdict.cells g))) hg.symm
theorem id_laws_toVerdictS (x : (List Verdict)) : laws_toVerdictS x = x := setS_ok (b := laws_toVerdictS_b1) id_laws_toVerdict (fun _ _ _ => rfl) (fun _ => rfl) x
def laws_toBucket (p0 : Bucket) : Bucket :=
  p0
theorem c_laws_toBucket (p0 : Bucket) : FnOk prog 69 [.agg (Bucket.cells p0)] ⟨.agg (Bucket.cells (laws_toBucket p0)), [], [], false⟩ := by
  refine FnOk.intro (E := env) envOk wide func69 rfl (by kernel_rfl) rfl rfl ?_
  refine litE (m := 0) rfl ?_
  refine litE (m := 1) rfl ?_
  refine litE (m := 2) rfl ?_
  refine And.intro (fun _ => own_Bucket _) ?_
  have hg : laws_toBucket p0 = p0 := by
    first | rfl | (simp only [laws_toBucket, cond_true, cond_false, Step.fin_stop, Step.fin_done, Fin.get_fin, Fin.get_done, Step.fin_next, Bool.not_true, Bool.not_false, Option.getD_some]; done) | (simp [laws_toBucket, cond_true, cond_false, Step.fin_stop, Step.fin_done, Fin.get_fin, Fin.get_done, Step.fin_next, Bool.not_true, Bool.not_false, Option.getD_some]; done) | (exfalso; simp_all; done)
  exact congrArg (fun g : Bucket => AV.agg (Bucket.cells g)) hg.symm
theorem id_laws_toBucket (x : Bucket) : laws_toBucket x = x := by
  first | rfl | (simp only [laws_toBucket]; done) | (simp only [laws_toBucket]; rfl)
def laws_toModel (p0 : Model) : Model :=
  (Model.mk (laws_toConf p0.C) p0.Shut (laws_toTrailS p0.Open) (laws_toVerdictS p0.Cache) (laws_toBucket p0.B) p0.Used)
theorem c_laws_toModel (p0 : Model) (hs : Model.bd 1048576 p0) : FnOk prog 23 [.agg ((Model.cells false) p0)] ⟨.agg ((Model.cells true) (laws_toModel p0)), [], [], false⟩ := by
  refine FnOk.intro (E := env) envOk wide func23 rfl (by kernel_rfl) rfl rfl ?_
  unfold Model.bd at hs
  refine litE (m := 0) rfl ?_
  refine litE (m := 1) rfl ?_
  refine litE (m := 2) rfl ?_
  refine ⟨_, _, c_laws_toConf p0.C (by exact hs.1), (FzAs.same _), ?_⟩
  refine litE (m := 4) rfl ?_
  refine ⟨_, _, c_laws_toTrailS p0.Open (by exact hs.2.1), (FzAs.same _), ?_⟩
  refine litE (m := 6) rfl ?_
  refine ⟨_, _, c_laws_toVerdictS p0.Cache (by exact hs.2.2), (FzAs.same _), ?_⟩
  refine litE (m := 8) rfl ?_
  refine ⟨_, _, c_laws_toBucket p0.B, (FzAs.same _), ?_⟩
  refine litE (m := 10) rfl ?_
  refine And.intro (fun _ => own_Model _) ?_
  have hg : laws_toModel p0 = (Model.mk (laws_toConf p0.C) p0.Shut (laws_toTrailS p0.Open) (laws_toVerdictS p0.Cache) (laws_toBucket p0.B) p0.Used) := by
    first | rfl | (simp only [laws_toModel, cond_true, cond_false, Step.fin_stop, Step.fin_done, Fin.get_fin, Fin.get_done, Step.fin_next, Bool.not_true, Bool.not_false, Option.getD_some]; done) | (simp [laws_toModel, cond_true, cond_false, Step.fin_stop, Step.fin_done, Fin.get_fin, Fin.get_done, Step.fin_next, Bool.not_true, Bool.not_false, Option.getD_some]; done) | (exfalso; simp_all; done)
  exact congrArg (fun g : Model => AV.agg ((Model.cells true) g)) hg.symm
theorem id_laws_toModel (x : Model) : laws_toModel x = x := by
  first | rfl | (simp only [laws_toModel, id_laws_toConf, id_laws_toTrailS, id_laws_toVerdictS, id_laws_toBucket]; done) | (simp only [laws_toModel, id_laws_toConf, id_laws_toTrailS, id_laws_toVerdictS, id_laws_toBucket]; rfl)
def spec_l1In (p0 : Int) (p1 : Int) (p2 : Int) : Bool :=
  (bif (decide (p0 ≥ p1)) then (decide (p0 ≤ p2)) else false)
theorem c_spec_l1In (p0 : Int) (p1 : Int) (p2 : Int) : FnOk prog 161 [.one (.v (.int .i64 p0)), .one (.v (.int .i64 p1)), .one (.v (.int .i64 p2))] ⟨.one (.v (.bool (spec_l1In p0 p1 p2))), [], [], false⟩ := by
  refine FnOk.intro (E := env) envOk wide func161 rfl (by kernel_rfl) rfl rfl ?_
  refine And.intro (fun (h1 : (decide (p0 ≥ p1)) = true) => ?_) (fun (h1 : (decide (p0 ≥ p1)) = false) => ?_)
  · refine And.intro (fun _ => .v _) ?_
    have hg : spec_l1In p0 p1 p2 = (decide (p0 ≤ p2)) := by
      first | rfl | (simp only [spec_l1In, h1, cond_true, cond_false, Step.fin_stop, Step.fin_done, Fin.get_fin, Fin.get_done, Step.fin_next, Bool.not_true, Bool.not_false, Option.getD_some]; done) | (simp [spec_l1In, h1, cond_true, cond_false, Step.fin_stop, Step.fin_done, Fin.get_fin, Fin.get_done, Step.fin_next, Bool.not_true, Bool.not_false, Option.getD_some]; done) | (exfalso; simp_all; done)
    exact congrArg (fun g : Bool => AV.one (.v (.bool g))) hg.symm
  · refine And.intro (fun _ => .v _) ?_
    have hg : spec_l1In p0 p1 p2 = false := by
      first | rfl | (simp only [spec_l1In, h1, cond_true, cond_false, Step.fin_stop, Step.fin_done, Fin.get_fin, Fin.get_done, Step.fin_next, Bool.not_true, Bool.not_false, Option.getD_some]; done) | (simp [spec_l1In, h1, cond_true, cond_false, Step.fin_stop, Step.fin_done, Fin.get_fin, Fin.get_done, Step.fin_next, Bool.not_true, Bool.not_false, Option.getD_some]; done) | (exfalso; simp_all; done)
    exact congrArg (fun g : Bool => AV.one (.v (.bool g))) hg.symm
def spec_NameOk_b1 (p0 : ByteArray) (i1 : Nat) (s1 : Unit) : Step (Unit) Bool :=
  (bif (decide ((((p0).data.getD i1 0).toNat : Int) < 97)) then (.done false) else (bif (decide ((((p0).data.getD i1 0).toNat : Int) > 122)) then (.done false) else (.next ())))
def spec_NameOk (p0 : ByteArray) : Bool :=
  (Fin.get (fun s1 => (spec_l1In (((p0).size : Nat) : Int) 1 8)) (loopC (spec_NameOk_b1 p0) 0 () (p0).size))
theorem c_spec_NameOk (p0 : ByteArray) : FnOk prog 235 [.one (.v (.string p0))] ⟨.one (.v (.bool (spec_NameOk p0))), [], [], false⟩ := by
  refine FnOk.intro (E := env) envOk wide func235 rfl (by kernel_rfl) rfl rfl ?_
  refine loop_rule (α := CntSt (spec_NameOk_b1 p0) () (p0).size) [0] (fun x1 => [(3, .one (.v (.int .i64 ((x1.i : Nat) : Int))))]) (fun x1 => []) (fun x1 => (p0).size - x1.i) .init [] ?_ (fun x1 => ?_)
  · exact ⟨rfl, ⟨rfl, rfl, trivial⟩, trivial, trivial⟩
  · refine fun hN => ?_
    have hN1 : (_ : Nat) ≤ 9223372036854775807 := hN rfl
    refine And.intro (fun (h2 : (decide (((x1.i : Nat) : Int) < (((p0).size : Nat) : Int))) = true) => ?_) (fun (h2 : (decide (((x1.i : Nat) : Int) < (((p0).size : Nat) : Int))) = false) => ?_)
    · have hi1 : x1.i < (p0).size := by (first | omega | (simp; done) | (simp; omega) | (simp at *; omega) | (simp at *; done) | (simp_all; done) | (simp_all; omega))
      have hw1 : IntKind.i64.wrap (((x1.i : Nat) : Int) + 1) = ((x1.i + 1 : Nat) : Int) := by (rw [Go.Ev.wrap_small] <;> omega)
      refine And.intro (fun _ => by (first | omega | (simp; done) | (simp; omega) | (simp at *; omega) | (simp at *; done) | (simp_all; done) | (simp_all; omega))) ?_
      refine And.intro (fun (h3 : (decide ((((p0).data.getD x1.i 0).toNat : Int) < 97)) = false) => ?_) (fun (h3 : (decide ((((p0).data.getD x1.i 0).toNat : Int) < 97)) = true) => ?_)
      · refine And.intro (fun _ => by (first | omega | (simp; done) | (simp; omega) | (simp at *; omega) | (simp at *; done) | (simp_all; done) | (simp_all; omega))) ?_
        refine And.intro (fun (h4 : (decide ((((p0).data.getD x1.i 0).toNat : Int) > 122)) = true) => ?_) (fun (h4 : (decide ((((p0).data.getD x1.i 0).toNat : Int) > 122)) = false) => ?_)
        · have hb1 := x1.out hi1 (by first | rfl | (simp only [spec_NameOk_b1, h2, h3, h4, cond_true, cond_false, Bool.not_true, Bool.not_false, Option.getD_some, Step.isNext_stop, Step.isNext_done, Step.fin_stop, Step.fin_done, Fin.get_fin, Fin.get_done]; done) | (exfalso; simp_all; done))
          refine And.intro (fun _ => .v _) ?_
          have hg : spec_NameOk p0 = false := by
            first | rfl | (simp only [spec_NameOk, spec_NameOk_b1, h2, h3, h4, hb1, cond_true, cond_false, Step.fin_stop, Step.fin_done, Fin.get_fin, Fin.get_done, Step.fin_next, Bool.not_true, Bool.not_false, Option.getD_some]; done) | (simp [spec_NameOk, spec_NameOk_b1, h2, h3, h4, hb1, cond_true, cond_false, Step.fin_stop, Step.fin_done, Fin.get_fin, Fin.get_done, Step.fin_next, Bool.not_true, Bool.not_false, Option.getD_some]; done) | (exfalso; simp_all; done)
          exact congrArg (fun g : Bool => AV.one (.v (.bool g))) hg.symm
        · refine x1.go hi1 (v := ()) (by first | rfl | (simp only [spec_NameOk_b1, h2, h3, h4, cond_true, cond_false, Bool.not_true, Bool.not_false, Option.getD_some, Step.fin_stop, Step.fin_done, Fin.get_fin, Fin.get_done]; done) | (exfalso; simp_all; done)) [] (by show _ - (x1.i + 1) < _ - x1.i; omega) ?_
          exact ⟨rfl, ⟨(eqInt hw1), rfl, trivial⟩, trivial, trivial⟩
      · have hb1 := x1.out hi1 (by first | rfl | (simp only [spec_NameOk_b1, h2, h3, cond_true, cond_false, Bool.not_true, Bool.not_false, Option.getD_some, Step.isNext_stop, Step.isNext_done, Step.fin_stop, Step.fin_done, Fin.get_fin, Fin.get_done]; done) | (exfalso; simp_all; done))
        refine And.intro (fun _ => .v _) ?_
        have hg : spec_NameOk p0 = false := by
          first | rfl | (simp only [spec_NameOk, spec_NameOk_b1, h2, h3, hb1, cond_true, cond_false, Step.fin_stop, Step.fin_done, Fin.get_fin, Fin.get_done, Step.fin_next, Bool.not_true, Bool.not_false, Option.getD_some]; done) | (simp [spec_NameOk, spec_NameOk_b1, h2, h3, hb1, cond_true, cond_false, Step.fin_stop, Step.fin_done, Fin.get_fin, Fin.get_done, Step.fin_next, Bool.not_true, Bool.not_false, Option.getD_some]; done) | (exfalso; simp_all; done)
        exact congrArg (fun g : Bool => AV.one (.v (.bool g))) hg.symm
    · have hf1 := x1.fin (show ¬ x1.i < (p0).size by (first | omega | (simp; done) | (simp; omega) | (simp at *; omega) | (simp at *; done) | (simp_all; done) | (simp_all; omega)))
      refine fun hN => ?_
      have hN5 : (_ : Nat) ≤ 9223372036854775807 := hN rfl
      refine ⟨_, _, c_spec_l1In (((p0).size : Nat) : Int) 1 8, (FzAs.same _), ?_⟩
      refine litE (m := 1) rfl ?_
      refine And.intro (fun _ => .v _) ?_
      have hg : spec_NameOk p0 = (spec_l1In (((p0).size : Nat) : Int) 1 8) := by
        first | rfl | (simp only [spec_NameOk, spec_NameOk_b1, h2, hf1, cond_true, cond_false, Step.fin_stop, Step.fin_done, Fin.get_fin, Fin.get_done, Step.fin_next, Bool.not_true, Bool.not_false, Option.getD_some]; done) | (simp [spec_NameOk, spec_NameOk_b1, h2, hf1, cond_true, cond_false, Step.fin_stop, Step.fin_done, Fin.get_fin, Fin.get_done, Step.fin_next, Bool.not_true, Bool.not_false, Option.getD_some]; done) | (exfalso; simp_all; done)
      exact congrArg (fun g : Bool => AV.one (.v (.bool g))) hg.symm
def spec_PlainOk_b1 (p0 : ByteArray) (i1 : Nat) (s1 : Unit) : Step (Unit) Bool :=
  (bif (decide ((((p0).data.getD i1 0).toNat : Int) < 32)) then (.done false) else (bif (decide ((((p0).data.getD i1 0).toNat : Int) > 126)) then (.done false) else (bif ((((p0).data.getD i1 0).toNat : Int) == 34) then (.done false) else (.next ()))))
def spec_PlainOk (p0 : ByteArray) : Bool :=
  (Fin.get (fun s1 => (decide ((((p0).size : Nat) : Int) ≤ 20))) (loopC (spec_PlainOk_b1 p0) 0 () (p0).size))
theorem c_spec_PlainOk (p0 : ByteArray) : FnOk prog 236 [.one (.v (.string p0))] ⟨.one (.v (.bool (spec_PlainOk p0))), [], [], false⟩ := by
  refine FnOk.intro (E := env) envOk wide func236 rfl (by kernel_rfl) rfl rfl ?_
  refine loop_rule (α := CntSt (spec_PlainOk_b1 p0) () (p0).size) [0] (fun x1 => [(3, .one (.v (.int .i64 ((x1.i : Nat) : Int))))]) (fun x1 => []) (fun x1 => (p0).size - x1.i) .init [] ?_ (fun x1 => ?_)
  · exact ⟨rfl, ⟨rfl, rfl, trivial⟩, trivial, trivial⟩
  · refine fun hN => ?_
    have hN1 : (_ : Nat) ≤ 9223372036854775807 := hN rfl
    refine And.intro (fun (h2 : (decide (((x1.i : Nat) : Int) < (((p0).size : Nat) : Int))) = true) => ?_) (fun (h2 : (decide (((x1.i : Nat) : Int) < (((p0).size : Nat) : Int))) = false) => ?_)
    · have hi1 : x1.i < (p0).size := by (first | omega | (simp; done) | (simp; omega) | (simp at *; omega) | (simp at *; done) | (simp_all; done) | (simp_all; omega))
      have hw1 : IntKind.i64.wrap (((x1.i : Nat) : Int) + 1) = ((x1.i + 1 : Nat) : Int) := by (rw [Go.Ev.wrap_small] <;> omega)
      refine And.intro (fun _ => by (first | omega | (simp; done) | (simp; omega) | (simp at *; omega) | (simp at *; done) | (simp_all; done) | (simp_all; omega))) ?_
      refine And.intro (fun (h3 : (decide ((((p0).data.getD x1.i 0).toNat : Int) < 32)) = false) => ?_) (fun (h3 : (decide ((((p0).data.getD x1.i 0).toNat : Int) < 32)) = true) => ?_)
      · refine And.intro (fun _ => by (first | omega | (simp; done) | (simp; omega) | (simp at *; omega) | (simp at *; done) | (simp_all; done) | (simp_all; omega))) ?_
        refine And.intro (fun (h4 : (decide ((((p0).data.getD x1.i 0).toNat : Int) > 126)) = false) => ?_) (fun (h4 : (decide ((((p0).data.getD x1.i 0).toNat : Int) > 126)) = true) => ?_)
        · refine And.intro (fun _ => by (first | omega | (simp; done) | (simp; omega) | (simp at *; omega) | (simp at *; done) | (simp_all; done) | (simp_all; omega))) ?_
          refine And.intro (fun (h5 : ((((p0).data.getD x1.i 0).toNat : Int) == 34) = true) => ?_) (fun (h5 : ((((p0).data.getD x1.i 0).toNat : Int) == 34) = false) => ?_)
          · have hb1 := x1.out hi1 (by first | rfl | (simp only [spec_PlainOk_b1, h2, h3, h4, h5, cond_true, cond_false, Bool.not_true, Bool.not_false, Option.getD_some, Step.isNext_stop, Step.isNext_done, Step.fin_stop, Step.fin_done, Fin.get_fin, Fin.get_done]; done) | (exfalso; simp_all; done))
            refine And.intro (fun _ => .v _) ?_
            have hg : spec_PlainOk p0 = false := by
              first | rfl | (simp only [spec_PlainOk, spec_PlainOk_b1, h2, h3, h4, h5, hb1, cond_true, cond_false, Step.fin_stop, Step.fin_done, Fin.get_fin, Fin.get_done, Step.fin_next, Bool.not_true, Bool.not_false, Option.getD_some]; done) | (simp [spec_PlainOk, spec_PlainOk_b1, h2, h3, h4, h5, hb1, cond_true, cond_false, Step.fin_stop, Step.fin_done, Fin.get_fin, Fin.get_done, Step.fin_next, Bool.not_true, Bool.not_false, Option.getD_some]; done) | (exfalso; simp_all; done)
            exact congrArg (fun g : Bool => AV.one (.v (.bool g))) hg.symm
          · refine x1.go hi1 (v := ()) (by first | rfl | (simp only [spec_PlainOk_b1, h2, h3, h4, h5, cond_true, cond_false, Bool.not_true, Bool.not_false, Option.getD_some, Step.fin_stop, Step.fin_done, Fin.get_fin, Fin.get_done]; done) | (exfalso; simp_all; done)) [] (by show _ - (x1.i + 1) < _ - x1.i; omega) ?_
            exact ⟨rfl, ⟨(eqInt hw1), rfl, trivial⟩, trivial, trivial⟩
        · have hb1 := x1.out hi1 (by first | rfl | (simp only [spec_PlainOk_b1, h2, h3, h4, cond_true, cond_false, Bool.not_true, Bool.not_false, Option.getD_some, Step.isNext_stop, Step.isNext_done, Step.fin_stop, Step.fin_done, Fin.get_fin, Fin.get_done]; done) | (exfalso; simp_all; done))
          refine And.intro (fun _ => .v _) ?_
          have hg : spec_PlainOk p0 = false := by
            first | rfl | (simp only [spec_PlainOk, spec_PlainOk_b1, h2, h3, h4, hb1, cond_true, cond_false, Step.fin_stop, Step.fin_done, Fin.get_fin, Fin.get_done, Step.fin_next, Bool.not_true, Bool.not_false, Option.getD_some]; done) | (simp [spec_PlainOk, spec_PlainOk_b1, h2, h3, h4, hb1, cond_true, cond_false, Step.fin_stop, Step.fin_done, Fin.get_fin, Fin.get_done, Step.fin_next, Bool.not_true, Bool.not_false, Option.getD_some]; done) | (exfalso; simp_all; done)
          exact congrArg (fun g : Bool => AV.one (.v (.bool g))) hg.symm
      · have hb1 := x1.out hi1 (by first | rfl | (simp only [spec_PlainOk_b1, h2, h3, cond_true, cond_false, Bool.not_true, Bool.not_false, Option.getD_some, Step.isNext_stop, Step.isNext_done, Step.fin_stop, Step.fin_done, Fin.get_fin, Fin.get_done]; done) | (exfalso; simp_all; done))
        refine And.intro (fun _ => .v _) ?_
        have hg : spec_PlainOk p0 = false := by
          first | rfl | (simp only [spec_PlainOk, spec_PlainOk_b1, h2, h3, hb1, cond_true, cond_false, Step.fin_stop, Step.fin_done, Fin.get_fin, Fin.get_done, Step.fin_next, Bool.not_true, Bool.not_false, Option.getD_some]; done) | (simp [spec_PlainOk, spec_PlainOk_b1, h2, h3, hb1, cond_true, cond_false, Step.fin_stop, Step.fin_done, Fin.get_fin, Fin.get_done, Step.fin_next, Bool.not_true, Bool.not_false, Option.getD_some]; done) | (exfalso; simp_all; done)
        exact congrArg (fun g : Bool => AV.one (.v (.bool g))) hg.symm
    · have hf1 := x1.fin (show ¬ x1.i < (p0).size by (first | omega | (simp; done) | (simp; omega) | (simp at *; omega) | (simp at *; done) | (simp_all; done) | (simp_all; omega)))
      refine fun hN => ?_
      have hN6 : (_ : Nat) ≤ 9223372036854775807 := hN rfl
      refine And.intro (fun _ => .v _) ?_
      have hg : spec_PlainOk p0 = (decide ((((p0).size : Nat) : Int) ≤ 20)) := by
        first | rfl | (simp only [spec_PlainOk, spec_PlainOk_b1, h2, hf1, cond_true, cond_false, Step.fin_stop, Step.fin_done, Fin.get_fin, Fin.get_done, Step.fin_next, Bool.not_true, Bool.not_false, Option.getD_some]; done) | (simp [spec_PlainOk, spec_PlainOk_b1, h2, hf1, cond_true, cond_false, Step.fin_stop, Step.fin_done, Fin.get_fin, Fin.get_done, Step.fin_next, Bool.not_true, Bool.not_false, Option.getD_some]; done) | (exfalso; simp_all; done)
      exact congrArg (fun g : Bool => AV.one (.v (.bool g))) hg.symm
def spec_AttrOk (p0 : Attr) : Bool :=
  (bif (!(spec_NameOk p0.Key)) then false else (bif p0.Num then (bif (spec_l1In p0.N 0 2147483647) then (decide (p0.Text = (ByteArray.mk #[]))) else false) else (bif (p0.N == 0) then (spec_PlainOk p0.Text) else false)))
theorem c_spec_AttrOk (p0 : Attr) : FnOk prog 219 [.agg (Attr.cells p0)] ⟨.one (.v (.bool (spec_AttrOk p0))), [], [], false⟩ := by
  refine FnOk.intro (E := env) envOk wide func219 rfl (by kernel_rfl) rfl rfl ?_
  refine litE (m := 0) rfl ?_
  refine ⟨_, _, c_spec_NameOk p0.Key, (FzAs.same _), ?_⟩
  refine litE (m := 2) rfl ?_
  refine And.intro (fun (h1 : (!(spec_NameOk p0.Key)) = true) => ?_) (fun (h1 : (!(spec_NameOk p0.Key)) = false) => ?_)
  · refine And.intro (fun _ => .v _) ?_
    have hg : spec_AttrOk p0 = false := by
      first | rfl | (simp only [spec_AttrOk, h1, cond_true, cond_false, Step.fin_stop, Step.fin_done, Fin.get_fin, Fin.get_done, Step.fin_next, Bool.not_true, Bool.not_false, Option.getD_some]; done) | (simp [spec_AttrOk, h1, cond_true, cond_false, Step.fin_stop, Step.fin_done, Fin.get_fin, Fin.get_done, Step.fin_next, Bool.not_true, Bool.not_false, Option.getD_some]; done) | (exfalso; simp_all; done)
    exact congrArg (fun g : Bool => AV.one (.v (.bool g))) hg.symm
  · refine And.intro (fun (h2 : p0.Num = true) => ?_) (fun (h2 : p0.Num = false) => ?_)
    · refine ⟨_, _, c_spec_l1In p0.N 0 2147483647, (FzAs.same _), ?_⟩
      refine litE (m := 3) rfl ?_
      refine And.intro (fun (h3 : (spec_l1In p0.N 0 2147483647) = true) => ?_) (fun (h3 : (spec_l1In p0.N 0 2147483647) = false) => ?_)
      · refine And.intro (fun _ => .v _) ?_
        have hg : spec_AttrOk p0 = (decide (p0.Text = (ByteArray.mk #[]))) := by
          first | rfl | (simp only [spec_AttrOk, h1, h2, h3, cond_true, cond_false, Step.fin_stop, Step.fin_done, Fin.get_fin, Fin.get_done, Step.fin_next, Bool.not_true, Bool.not_false, Option.getD_some]; done) | (simp [spec_AttrOk, h1, h2, h3, cond_true, cond_false, Step.fin_stop, Step.fin_done, Fin.get_fin, Fin.get_done, Step.fin_next, Bool.not_true, Bool.not_false, Option.getD_some]; done) | (exfalso; simp_all; done)
        exact congrArg (fun g : Bool => AV.one (.v (.bool g))) hg.symm
      · refine And.intro (fun _ => .v _) ?_
        have hg : spec_AttrOk p0 = false := by
          first | rfl | (simp only [spec_AttrOk, h1, h2, h3, cond_true, cond_false, Step.fin_stop, Step.fin_done, Fin.get_fin, Fin.get_done, Step.fin_next, Bool.not_true, Bool.not_false, Option.getD_some]; done) | (simp [spec_AttrOk, h1, h2, h3, cond_true, cond_false, Step.fin_stop, Step.fin_done, Fin.get_fin, Fin.get_done, Step.fin_next, Bool.not_true, Bool.not_false, Option.getD_some]; done) | (exfalso; simp_all; done)
        exact congrArg (fun g : Bool => AV.one (.v (.bool g))) hg.symm
    · refine And.intro (fun (h4 : (p0.N == 0) = true) => ?_) (fun (h4 : (p0.N == 0) = false) => ?_)
      · refine ⟨_, _, c_spec_PlainOk p0.Text, (FzAs.same _), ?_⟩
        refine litE (m := 3) rfl ?_
        refine And.intro (fun _ => .v _) ?_
        have hg : spec_AttrOk p0 = (spec_PlainOk p0.Text) := by
          first | rfl | (simp only [spec_AttrOk, h1, h2, h4, cond_true, cond_false, Step.fin_stop, Step.fin_done, Fin.get_fin, Fin.get_done, Step.fin_next, Bool.not_true, Bool.not_false, Option.getD_some]; done) | (simp [spec_AttrOk, h1, h2, h4, cond_true, cond_false, Step.fin_stop, Step.fin_done, Fin.get_fin, Fin.get_done, Step.fin_next, Bool.not_true, Bool.not_false, Option.getD_some]; done) | (exfalso; simp_all; done)
        exact congrArg (fun g : Bool => AV.one (.v (.bool g))) hg.symm
      · refine And.intro (fun _ => .v _) ?_
        have hg : spec_AttrOk p0 = false := by
          first | rfl | (simp only [spec_AttrOk, h1, h2, h4, cond_true, cond_false, Step.fin_stop, Step.fin_done, Fin.get_fin, Fin.get_done, Step.fin_next, Bool.not_true, Bool.not_false, Option.getD_some]; done) | (simp [spec_AttrOk, h1, h2, h4, cond_true, cond_false, Step.fin_stop, Step.fin_done, Fin.get_fin, Fin.get_done, Step.fin_next, Bool.not_true, Bool.not_false, Option.getD_some]; done) | (exfalso; simp_all; done)
        exact congrArg (fun g : Bool => AV.one (.v (.bool g))) hg.symm
def spec_AttrsOk_b1 (p0 : (List Attr)) (i1 : Nat) (s1 : Unit) (a1 : Attr) : Step (Unit) Bool :=
  (bif (!(spec_AttrOk a1)) then (.done false) else (bif (decide (((i1 : Nat) : Int) > 0)) then (bif (!Op.bytesLess ((p0[((IntKind.i64.wrap (((i1 : Nat) : Int) - 1))).toNat]?.getD default).Key).toList (a1.Key).toList) then (.done false) else (.next ())) else (.next ())))
def spec_AttrsOk (p0 : (List Attr)) : Bool :=
  (Fin.get (fun s1 => (decide ((((p0).length : Nat) : Int) ≤ 4))) (loopL (spec_AttrsOk_b1 p0) 0 () p0))
theorem c_spec_AttrsOk (p0 : (List Attr)) : FnOk prog 190 [.one (.s false 4 (List.map Attr.cells p0))] ⟨.one (.v (.bool (spec_AttrsOk p0))), [], [], false⟩ := by
  refine FnOk.intro (E := env) envOk wide func190 rfl (by kernel_rfl) rfl rfl ?_
  refine loop_rule (α := LstSt (spec_AttrsOk_b1 p0) () p0) [0] (fun x1 => [(3, .one (.v (.int .i64 ((x1.i : Nat) : Int))))]) (fun x1 => []) (fun x1 => (p0).length - x1.i) .init [] ?_ (fun x1 => ?_)
  · exact ⟨rfl, ⟨rfl, rfl, trivial⟩, trivial, trivial⟩
  · refine lenE (k := (p0).length) (by simp) (fun hN1 => ?_)
    refine And.intro (fun (h2 : (decide (((x1.i : Nat) : Int) < (((p0).length : Nat) : Int))) = true) => ?_) (fun (h2 : (decide (((x1.i : Nat) : Int) < (((p0).length : Nat) : Int))) = false) => ?_)
    · have hi1 : x1.i < (p0).length := by simpa using h2
      have hw1 : IntKind.i64.wrap ((x1.i : Int) + 1) = ((x1.i + 1 : Nat) : Int) := wrap_succ hi1 (by first | assumption | omega)
      refine .inl ⟨by kernel_rfl, ?_⟩
      refine And.intro (fun _ => by first | exact idx_at hi1 | exact idx_of (by first | omega | (first | omega | (simp; done) | (simp; omega) | (simp at *; omega) | (simp at *; done) | (simp_all; done) | (simp_all; omega))) (by assumption) | (have hj := hi1; have hk := hi2; rw [List.length_map]; omega) | (have h9 : ((x1.i : Nat) : Int) > 0 := (by first | simpa using ‹decide (((x1.i : Nat) : Int) > 0) = true› | simp_all); have hj := hi1; have e9 : IntKind.i64.wrap (((x1.i : Nat) : Int) - 1) = ((x1.i : Nat) : Int) - 1 := (by rw [Go.Ev.wrap_small (n := ((x1.i : Nat) : Int) - 1)] <;> omega); rw [e9]; (try rw [List.length_map]); omega)) (rowAtE (i := x1.i) (l := p0) rfl hi1 ?_)
      refine ⟨_, _, c_spec_AttrOk (p0[x1.i]'hi1), (FzAs.same _), ?_⟩
      refine And.intro (fun (h3 : (!(spec_AttrOk (p0[x1.i]'hi1))) = false) => ?_) (fun (h3 : (!(spec_AttrOk (p0[x1.i]'hi1))) = true) => ?_)
      · refine And.intro (fun (h4 : (decide (((x1.i : Nat) : Int) > 0)) = true) => ?_) (fun (h4 : (decide (((x1.i : Nat) : Int) > 0)) = false) => ?_)
        · refine And.intro (fun _ => by first | exact idx_at hi1 | exact idx_of (by first | omega | (first | omega | (simp; done) | (simp; omega) | (simp at *; omega) | (simp at *; done) | (simp_all; done) | (simp_all; omega))) (by assumption) | (have hj := hi1; have hk := hi2; rw [List.length_map]; omega) | (have h9 : ((x1.i : Nat) : Int) > 0 := (by first | simpa using ‹decide (((x1.i : Nat) : Int) > 0) = true› | simp_all); have hj := hi1; have e9 : IntKind.i64.wrap (((x1.i : Nat) : Int) - 1) = ((x1.i : Nat) : Int) - 1 := (by rw [Go.Ev.wrap_small (n := ((x1.i : Nat) : Int) - 1)] <;> omega); rw [e9]; (try rw [List.length_map]); omega)) (rowOfE (i := ((IntKind.i64.wrap (((x1.i : Nat) : Int) - 1))).toNat) (l := p0) rfl (fun e5 he5 => ?_))
          refine And.intro (fun _ => by first | exact idx_at hi1 | exact idx_of (by first | omega | (first | omega | (simp; done) | (simp; omega) | (simp at *; omega) | (simp at *; done) | (simp_all; done) | (simp_all; omega))) (by assumption) | (have hj := hi1; have hk := hi2; rw [List.length_map]; omega) | (have h9 : ((x1.i : Nat) : Int) > 0 := (by first | simpa using ‹decide (((x1.i : Nat) : Int) > 0) = true› | simp_all); have hj := hi1; have e9 : IntKind.i64.wrap (((x1.i : Nat) : Int) - 1) = ((x1.i : Nat) : Int) - 1 := (by rw [Go.Ev.wrap_small (n := ((x1.i : Nat) : Int) - 1)] <;> omega); rw [e9]; (try rw [List.length_map]); omega)) (rowAtE (i := x1.i) (l := p0) rfl hi1 ?_)
          refine And.intro (fun (h6 : (!Op.bytesLess (e5.Key).toList ((p0[x1.i]'hi1).Key).toList) = true) => ?_) (fun (h6 : (!Op.bytesLess (e5.Key).toList ((p0[x1.i]'hi1).Key).toList) = false) => ?_)
          · have hb1 := x1.out hi1 (by first | rfl | (simp only [spec_AttrsOk_b1, h2, h3, h4, he5, h6, cond_true, cond_false, Bool.not_true, Bool.not_false, Option.getD_some, Step.isNext_stop, Step.isNext_done, Step.fin_stop, Step.fin_done, Fin.get_fin, Fin.get_done]; done) | (exfalso; simp_all; done))
            refine And.intro (fun _ => .v _) ?_
            have hg : spec_AttrsOk p0 = false := by
              first | rfl | (simp only [spec_AttrsOk, spec_AttrsOk_b1, h2, h3, h4, he5, h6, hb1, cond_true, cond_false, Step.fin_stop, Step.fin_done, Fin.get_fin, Fin.get_done, Step.fin_next, Bool.not_true, Bool.not_false, Option.getD_some]; done) | (simp [spec_AttrsOk, spec_AttrsOk_b1, h2, h3, h4, he5, h6, hb1, cond_true, cond_false, Step.fin_stop, Step.fin_done, Fin.get_fin, Fin.get_done, Step.fin_next, Bool.not_true, Bool.not_false, Option.getD_some]; done) | (exfalso; simp_all; done)
            exact congrArg (fun g : Bool => AV.one (.v (.bool g))) hg.symm
          · refine x1.go hi1 (v := ()) (by first | rfl | (simp only [spec_AttrsOk_b1, h2, h3, h4, he5, h6, cond_true, cond_false, Bool.not_true, Bool.not_false, Option.getD_some, Step.fin_stop, Step.fin_done, Fin.get_fin, Fin.get_done]; done) | (exfalso; simp_all; done)) [] (by show _ - (x1.i + 1) < _ - x1.i; omega) ?_
            exact ⟨rfl, ⟨(eqInt hw1), rfl, trivial⟩, trivial, trivial⟩
        · refine x1.go hi1 (v := ()) (by first | rfl | (simp only [spec_AttrsOk_b1, h2, h3, h4, cond_true, cond_false, Bool.not_true, Bool.not_false, Option.getD_some, Step.fin_stop, Step.fin_done, Fin.get_fin, Fin.get_done]; done) | (exfalso; simp_all; done)) [] (by show _ - (x1.i + 1) < _ - x1.i; omega) ?_
          exact ⟨rfl, ⟨(eqInt hw1), rfl, trivial⟩, trivial, trivial⟩
      · have hb1 := x1.out hi1 (by first | rfl | (simp only [spec_AttrsOk_b1, h2, h3, cond_true, cond_false, Bool.not_true, Bool.not_false, Option.getD_some, Step.isNext_stop, Step.isNext_done, Step.fin_stop, Step.fin_done, Fin.get_fin, Fin.get_done]; done) | (exfalso; simp_all; done))
        refine And.intro (fun _ => .v _) ?_
        have hg : spec_AttrsOk p0 = false := by
          first | rfl | (simp only [spec_AttrsOk, spec_AttrsOk_b1, h2, h3, hb1, cond_true, cond_false, Step.fin_stop, Step.fin_done, Fin.get_fin, Fin.get_done, Step.fin_next, Bool.not_true, Bool.not_false, Option.getD_some]; done) | (simp [spec_AttrsOk, spec_AttrsOk_b1, h2, h3, hb1, cond_true, cond_false, Step.fin_stop, Step.fin_done, Fin.get_fin, Fin.get_done, Step.fin_next, Bool.not_true, Bool.not_false, Option.getD_some]; done) | (exfalso; simp_all; done)
        exact congrArg (fun g : Bool => AV.one (.v (.bool g))) hg.symm
    · have hf1 := x1.fin (show ¬ x1.i < (p0).length by simpa using h2)
      refine lenE (k := (p0).length) (by simp) (fun hN7 => ?_)
      refine And.intro (fun _ => .v _) ?_
      have hg : spec_AttrsOk p0 = (decide ((((p0).length : Nat) : Int) ≤ 4)) := by
        first | rfl | (simp only [spec_AttrsOk, spec_AttrsOk_b1, h2, hf1, cond_true, cond_false, Step.fin_stop, Step.fin_done, Fin.get_fin, Fin.get_done, Step.fin_next, Bool.not_true, Bool.not_false, Option.getD_some]; done) | (simp [spec_AttrsOk, spec_AttrsOk_b1, h2, hf1, cond_true, cond_false, Step.fin_stop, Step.fin_done, Fin.get_fin, Fin.get_done, Step.fin_next, Bool.not_true, Bool.not_false, Option.getD_some]; done) | (exfalso; simp_all; done)
      exact congrArg (fun g : Bool => AV.one (.v (.bool g))) hg.symm
def spec_AttrSize (p0 : Attr) : Int :=
  (bif p0.Num then (IntKind.i64.wrap ((((p0.Key).size : Nat) : Int) + 4)) else (IntKind.i64.wrap ((((p0.Key).size : Nat) : Int) + (((p0.Text).size : Nat) : Int))))
theorem c_spec_AttrSize (p0 : Attr) : FnOk prog 220 [.agg (Attr.cells p0)] ⟨.one (.v (.int .i64 (spec_AttrSize p0))), [], [], false⟩ := by
  refine FnOk.intro (E := env) envOk wide func220 rfl (by kernel_rfl) rfl rfl ?_
  refine litE (m := 0) rfl ?_
  refine And.intro (fun (h1 : p0.Num = true) => ?_) (fun (h1 : p0.Num = false) => ?_)
  · refine fun hN => ?_
    have hN2 : (_ : Nat) ≤ 9223372036854775807 := hN rfl
    refine And.intro (fun _ => .v _) ?_
    have hg : spec_AttrSize p0 = (IntKind.i64.wrap ((((p0.Key).size : Nat) : Int) + 4)) := by
      first | rfl | (simp only [spec_AttrSize, h1, cond_true, cond_false, Step.fin_stop, Step.fin_done, Fin.get_fin, Fin.get_done, Step.fin_next, Bool.not_true, Bool.not_false, Option.getD_some]; done) | (simp [spec_AttrSize, h1, cond_true, cond_false, Step.fin_stop, Step.fin_done, Fin.get_fin, Fin.get_done, Step.fin_next, Bool.not_true, Bool.not_false, Option.getD_some]; done) | (exfalso; simp_all; done)
    exact congrArg (fun g : Int => AV.one (.v (.int .i64 g))) hg.symm
  · refine fun hN => ?_
    have hN3 : (_ : Nat) ≤ 9223372036854775807 := hN rfl
    refine fun hN => ?_
    have hN4 : (_ : Nat) ≤ 9223372036854775807 := hN rfl
    refine And.intro (fun _ => .v _) ?_
    have hg : spec_AttrSize p0 = (IntKind.i64.wrap ((((p0.Key).size : Nat) : Int) + (((p0.Text).size : Nat) : Int))) := by
      first | rfl | (simp only [spec_AttrSize, h1, cond_true, cond_false, Step.fin_stop, Step.fin_done, Fin.get_fin, Fin.get_done, Step.fin_next, Bool.not_true, Bool.not_false, Option.getD_some]; done) | (simp [spec_AttrSize, h1, cond_true, cond_false, Step.fin_stop, Step.fin_done, Fin.get_fin, Fin.get_done, Step.fin_next, Bool.not_true, Bool.not_false, Option.getD_some]; done) | (exfalso; simp_all; done)
    exact congrArg (fun g : Int => AV.one (.v (.int .i64 g))) hg.symm
def spec_SizeOf_b1 (i1 : Nat) (s1 : Int) (a1 : Attr) : Step (Int) Int :=
  (.next (IntKind.i64.wrap (s1 + (spec_AttrSize a1))))
def spec_SizeOf (p0 : Span) : Int :=
  (Fin.get (fun s1 => s1) (loopL spec_SizeOf_b1 0 12 p0.Attrs))
theorem c_spec_SizeOf (p0 : Span) : FnOk prog 191 [.agg ((Span.cells false) p0)] ⟨.one (.v (.int .i64 (spec_SizeOf p0))), [], [], false⟩ := by
  refine FnOk.intro (E := env) envOk wide func191 rfl (by kernel_rfl) rfl rfl ?_
  refine litE (m := 0) rfl ?_
  refine loop_rule (α := LstSt spec_SizeOf_b1 12 p0.Attrs) [1] (fun x1 => [(3, .one (.v (.int .i64 x1.s))), (4, .one (.v (.int .i64 ((x1.i : Nat) : Int))))]) (fun x1 => [.keep 0]) (fun x1 => (p0.Attrs).length - x1.i) .init [some 0] ?_ (fun x1 => ?_)
  · exact ⟨rfl, ⟨rfl, rfl, ⟨rfl, rfl, rfl, rfl⟩, trivial⟩, ⟨⟨rfl, rfl, ⟨rfl, rfl, rfl, rfl, rfl, rfl, trivial⟩⟩, trivial⟩, trivial⟩
  · refine lenE (k := (p0.Attrs).length) (by simp) (fun hN1 => ?_)
    refine And.intro (fun (h2 : (decide (((x1.i : Nat) : Int) < (((p0.Attrs).length : Nat) : Int))) = true) => ?_) (fun (h2 : (decide (((x1.i : Nat) : Int) < (((p0.Attrs).length : Nat) : Int))) = false) => ?_)
    · have hi1 : x1.i < (p0.Attrs).length := by simpa using h2
      have hw1 : IntKind.i64.wrap ((x1.i : Int) + 1) = ((x1.i + 1 : Nat) : Int) := wrap_succ hi1 (by first | assumption | omega)
      refine And.intro (fun _ => by exact idx_at hi1) (rowAtE (i := x1.i) (l := p0.Attrs) rfl hi1 ?_)
      refine ⟨_, _, c_spec_AttrSize (p0.Attrs[x1.i]'hi1), (FzAs.same _), ?_⟩
      refine litE (m := 2) rfl ?_
      refine x1.go hi1 (v := (IntKind.i64.wrap (x1.s + (spec_AttrSize (p0.Attrs[x1.i]'hi1))))) (by first | rfl | (simp only [spec_SizeOf_b1, h2, cond_true, cond_false, Bool.not_true, Bool.not_false, Option.getD_some, Step.fin_stop, Step.fin_done, Fin.get_fin, Fin.get_done]; done) | (exfalso; simp_all; done)) [some 0] (by show _ - (x1.i + 1) < _ - x1.i; omega) ?_
      exact ⟨rfl, ⟨rfl, (eqInt hw1), ⟨rfl, rfl, rfl, rfl⟩, trivial⟩, ⟨⟨rfl, rfl, ⟨rfl, rfl, rfl, rfl, rfl, rfl, trivial⟩⟩, trivial⟩, trivial⟩
    · have hf1 := x1.fin (show ¬ x1.i < (p0.Attrs).length by simpa using h2)
      refine And.intro (fun _ => .v _) ?_
      have hg : spec_SizeOf p0 = x1.s := by
        first | rfl | (simp only [spec_SizeOf, spec_SizeOf_b1, h2, hf1, cond_true, cond_false, Step.fin_stop, Step.fin_done, Fin.get_fin, Fin.get_done, Step.fin_next, Bool.not_true, Bool.not_false, Option.getD_some]; done) | (simp [spec_SizeOf, spec_SizeOf_b1, h2, hf1, cond_true, cond_false, Step.fin_stop, Step.fin_done, Fin.get_fin, Fin.get_done, Step.fin_next, Bool.not_true, Bool.not_false, Option.getD_some]; done) | (exfalso; simp_all; done)
      exact congrArg (fun g : Int => AV.one (.v (.int .i64 g))) hg.symm
def spec_SpanOk (p0 : Span) : Bool :=
  (bif (spec_l1In p0.Trace 1 999) then (bif (spec_l1In p0.Id 1 999) then (bif (spec_l1In p0.Start 0 99999) then (bif (spec_l1In p0.End p0.Start 99999) then (bif (spec_AttrsOk p0.Attrs) then (decide ((spec_SizeOf p0) ≤ 96)) else false) else false) else false) else false) else false)
theorem c_spec_SpanOk (p0 : Span) : FnOk prog 160 [.agg ((Span.cells false) p0)] ⟨.one (.v (.bool (spec_SpanOk p0))), [], [], false⟩ := by
  refine FnOk.intro (E := env) envOk wide func160 rfl (by kernel_rfl) rfl rfl ?_
  refine litE (m := 0) rfl ?_
  refine ⟨_, _, c_spec_l1In p0.Trace 1 999, (FzAs.same _), ?_⟩
  refine litE (m := 2) rfl ?_
  refine And.intro (fun (h1 : (spec_l1In p0.Trace 1 999) = true) => ?_) (fun (h1 : (spec_l1In p0.Trace 1 999) = false) => ?_)
  · refine ⟨_, _, c_spec_l1In p0.Id 1 999, (FzAs.same _), ?_⟩
    refine litE (m := 3) rfl ?_
    refine And.intro (fun (h2 : (spec_l1In p0.Id 1 999) = true) => ?_) (fun (h2 : (spec_l1In p0.Id 1 999) = false) => ?_)
    · refine ⟨_, _, c_spec_l1In p0.Start 0 99999, (FzAs.same _), ?_⟩
      refine litE (m := 4) rfl ?_
      refine And.intro (fun (h3 : (spec_l1In p0.Start 0 99999) = true) => ?_) (fun (h3 : (spec_l1In p0.Start 0 99999) = false) => ?_)
      · refine ⟨_, _, c_spec_l1In p0.End p0.Start 99999, (FzAs.same _), ?_⟩
        refine litE (m := 5) rfl ?_
        refine And.intro (fun (h4 : (spec_l1In p0.End p0.Start 99999) = true) => ?_) (fun (h4 : (spec_l1In p0.End p0.Start 99999) = false) => ?_)
        · refine ⟨_, _, c_spec_AttrsOk p0.Attrs, (FzAs.same _), ?_⟩
          refine litE (m := 6) rfl ?_
          refine And.intro (fun (h5 : (spec_AttrsOk p0.Attrs) = true) => ?_) (fun (h5 : (spec_AttrsOk p0.Attrs) = false) => ?_)
          · refine ⟨_, _, c_spec_SizeOf p0, (FzAs.same _), ?_⟩
            refine litE (m := 7) rfl ?_
            refine And.intro (fun _ => .v _) ?_
            have hg : spec_SpanOk p0 = (decide ((spec_SizeOf p0) ≤ 96)) := by
              first | rfl | (simp only [spec_SpanOk, h1, h2, h3, h4, h5, cond_true, cond_false, Step.fin_stop, Step.fin_done, Fin.get_fin, Fin.get_done, Step.fin_next, Bool.not_true, Bool.not_false, Option.getD_some]; done) | (simp [spec_SpanOk, h1, h2, h3, h4, h5, cond_true, cond_false, Step.fin_stop, Step.fin_done, Fin.get_fin, Fin.get_done, Step.fin_next, Bool.not_true, Bool.not_false, Option.getD_some]; done) | (exfalso; simp_all; done)
            exact congrArg (fun g : Bool => AV.one (.v (.bool g))) hg.symm
          · refine And.intro (fun _ => .v _) ?_
            have hg : spec_SpanOk p0 = false := by
              first | rfl | (simp only [spec_SpanOk, h1, h2, h3, h4, h5, cond_true, cond_false, Step.fin_stop, Step.fin_done, Fin.get_fin, Fin.get_done, Step.fin_next, Bool.not_true, Bool.not_false, Option.getD_some]; done) | (simp [spec_SpanOk, h1, h2, h3, h4, h5, cond_true, cond_false, Step.fin_stop, Step.fin_done, Fin.get_fin, Fin.get_done, Step.fin_next, Bool.not_true, Bool.not_false, Option.getD_some]; done) | (exfalso; simp_all; done)
            exact congrArg (fun g : Bool => AV.one (.v (.bool g))) hg.symm
        · refine And.intro (fun _ => .v _) ?_
          have hg : spec_SpanOk p0 = false := by
            first | rfl | (simp only [spec_SpanOk, h1, h2, h3, h4, cond_true, cond_false, Step.fin_stop, Step.fin_done, Fin.get_fin, Fin.get_done, Step.fin_next, Bool.not_true, Bool.not_false, Option.getD_some]; done) | (simp [spec_SpanOk, h1, h2, h3, h4, cond_true, cond_false, Step.fin_stop, Step.fin_done, Fin.get_fin, Fin.get_done, Step.fin_next, Bool.not_true, Bool.not_false, Option.getD_some]; done) | (exfalso; simp_all; done)
          exact congrArg (fun g : Bool => AV.one (.v (.bool g))) hg.symm
      · refine And.intro (fun _ => .v _) ?_
        have hg : spec_SpanOk p0 = false := by
          first | rfl | (simp only [spec_SpanOk, h1, h2, h3, cond_true, cond_false, Step.fin_stop, Step.fin_done, Fin.get_fin, Fin.get_done, Step.fin_next, Bool.not_true, Bool.not_false, Option.getD_some]; done) | (simp [spec_SpanOk, h1, h2, h3, cond_true, cond_false, Step.fin_stop, Step.fin_done, Fin.get_fin, Fin.get_done, Step.fin_next, Bool.not_true, Bool.not_false, Option.getD_some]; done) | (exfalso; simp_all; done)
        exact congrArg (fun g : Bool => AV.one (.v (.bool g))) hg.symm
    · refine And.intro (fun _ => .v _) ?_
      have hg : spec_SpanOk p0 = false := by
        first | rfl | (simp only [spec_SpanOk, h1, h2, cond_true, cond_false, Step.fin_stop, Step.fin_done, Fin.get_fin, Fin.get_done, Step.fin_next, Bool.not_true, Bool.not_false, Option.getD_some]; done) | (simp [spec_SpanOk, h1, h2, cond_true, cond_false, Step.fin_stop, Step.fin_done, Fin.get_fin, Fin.get_done, Step.fin_next, Bool.not_true, Bool.not_false, Option.getD_some]; done) | (exfalso; simp_all; done)
      exact congrArg (fun g : Bool => AV.one (.v (.bool g))) hg.symm
  · refine And.intro (fun _ => .v _) ?_
    have hg : spec_SpanOk p0 = false := by
      first | rfl | (simp only [spec_SpanOk, h1, cond_true, cond_false, Step.fin_stop, Step.fin_done, Fin.get_fin, Fin.get_done, Step.fin_next, Bool.not_true, Bool.not_false, Option.getD_some]; done) | (simp [spec_SpanOk, h1, cond_true, cond_false, Step.fin_stop, Step.fin_done, Fin.get_fin, Fin.get_done, Step.fin_next, Bool.not_true, Bool.not_false, Option.getD_some]; done) | (exfalso; simp_all; done)
    exact congrArg (fun g : Bool => AV.one (.v (.bool g))) hg.symm
def spec_TrailOk_b1 (p0 : Trail) (i1 : Nat) (s1 : Unit) (a1 : Span) : Step (Unit) Bool :=
  (bif (!(spec_SpanOk a1)) then (.done false) else (bif (a1.Trace != p0.Id) then (.done false) else (.next ())))
def spec_TrailOk (p0 : Trail) : Bool :=
  (Fin.get (fun s1 => (bif (spec_l1In p0.Id 1 999) then (bif (decide (p0.Stamp ≥ 1)) then (bif (spec_l1In p0.First 0 2147483647) then (decide ((((p0.Spans).length : Nat) : Int) ≥ 1)) else false) else false) else false)) (loopL (spec_TrailOk_b1 p0) 0 () p0.Spans))
theorem c_spec_TrailOk (p0 : Trail) : FnOk prog 88 [.agg ((Trail.cells false) p0)] ⟨.one (.v (.bool (spec_TrailOk p0))), [], [], false⟩ := by
  refine FnOk.intro (E := env) envOk wide func88 rfl (by kernel_rfl) rfl rfl ?_
  refine litE (m := 0) rfl ?_
  refine loop_rule (α := LstSt (spec_TrailOk_b1 p0) () p0.Spans) [1] (fun x1 => [(3, .one (.v (.int .i64 ((x1.i : Nat) : Int))))]) (fun x1 => [.keep 0]) (fun x1 => (p0.Spans).length - x1.i) .init [some 0] ?_ (fun x1 => ?_)
  · exact ⟨rfl, ⟨rfl, ⟨rfl, rfl, rfl, rfl⟩, trivial⟩, ⟨⟨rfl, rfl, ⟨rfl, rfl, rfl, rfl, trivial⟩⟩, trivial⟩, trivial⟩
  · refine lenE (k := (p0.Spans).length) (by simp) (fun hN1 => ?_)
    refine And.intro (fun (h2 : (decide (((x1.i : Nat) : Int) < (((p0.Spans).length : Nat) : Int))) = true) => ?_) (fun (h2 : (decide (((x1.i : Nat) : Int) < (((p0.Spans).length : Nat) : Int))) = false) => ?_)
    · have hi1 : x1.i < (p0.Spans).length := by simpa using h2
      have hw1 : IntKind.i64.wrap ((x1.i : Int) + 1) = ((x1.i + 1 : Nat) : Int) := wrap_succ hi1 (by first | assumption | omega)
      refine .inl ⟨by kernel_rfl, ?_⟩
      refine And.intro (fun _ => by exact idx_at hi1) (rowAtE (i := x1.i) (l := p0.Spans) rfl hi1 ?_)
      refine ⟨_, _, c_spec_SpanOk (p0.Spans[x1.i]'hi1), (FzAs.same _), ?_⟩
      refine And.intro (fun (h3 : (!(spec_SpanOk (p0.Spans[x1.i]'hi1))) = false) => ?_) (fun (h3 : (!(spec_SpanOk (p0.Spans[x1.i]'hi1))) = true) => ?_)
      · refine And.intro (fun _ => by exact idx_at hi1) (rowAtE (i := x1.i) (l := p0.Spans) rfl hi1 ?_)
        refine And.intro (fun (h4 : ((p0.Spans[x1.i]'hi1).Trace != p0.Id) = true) => ?_) (fun (h4 : ((p0.Spans[x1.i]'hi1).Trace != p0.Id) = false) => ?_)
        · have hb1 := x1.out hi1 (by first | rfl | (simp only [spec_TrailOk_b1, h2, h3, h4, cond_true, cond_false, Bool.not_true, Bool.not_false, Option.getD_some, Step.isNext_stop, Step.isNext_done, Step.fin_stop, Step.fin_done, Fin.get_fin, Fin.get_done]; done) | (exfalso; simp_all; done))
          refine And.intro (fun _ => .v _) ?_
          have hg : spec_TrailOk p0 = false := by
            first | rfl | (simp only [spec_TrailOk, spec_TrailOk_b1, h2, h3, h4, hb1, cond_true, cond_false, Step.fin_stop, Step.fin_done, Fin.get_fin, Fin.get_done, Step.fin_next, Bool.not_true, Bool.not_false, Option.getD_some]; done) | (simp [spec_TrailOk, spec_TrailOk_b1, h2, h3, h4, hb1, cond_true, cond_false, Step.fin_stop, Step.fin_done, Fin.get_fin, Fin.get_done, Step.fin_next, Bool.not_true, Bool.not_false, Option.getD_some]; done) | (exfalso; simp_all; done)
          exact congrArg (fun g : Bool => AV.one (.v (.bool g))) hg.symm
        · refine x1.go hi1 (v := ()) (by first | rfl | (simp only [spec_TrailOk_b1, h2, h3, h4, cond_true, cond_false, Bool.not_true, Bool.not_false, Option.getD_some, Step.fin_stop, Step.fin_done, Fin.get_fin, Fin.get_done]; done) | (exfalso; simp_all; done)) [some 0] (by show _ - (x1.i + 1) < _ - x1.i; omega) ?_
          exact ⟨rfl, ⟨(eqInt hw1), ⟨rfl, rfl, rfl, rfl⟩, trivial⟩, ⟨⟨rfl, rfl, ⟨rfl, rfl, rfl, rfl, trivial⟩⟩, trivial⟩, trivial⟩
      · have hb1 := x1.out hi1 (by first | rfl | (simp only [spec_TrailOk_b1, h2, h3, cond_true, cond_false, Bool.not_true, Bool.not_false, Option.getD_some, Step.isNext_stop, Step.isNext_done, Step.fin_stop, Step.fin_done, Fin.get_fin, Fin.get_done]; done) | (exfalso; simp_all; done))
        refine And.intro (fun _ => .v _) ?_
        have hg : spec_TrailOk p0 = false := by
          first | rfl | (simp only [spec_TrailOk, spec_TrailOk_b1, h2, h3, hb1, cond_true, cond_false, Step.fin_stop, Step.fin_done, Fin.get_fin, Fin.get_done, Step.fin_next, Bool.not_true, Bool.not_false, Option.getD_some]; done) | (simp [spec_TrailOk, spec_TrailOk_b1, h2, h3, hb1, cond_true, cond_false, Step.fin_stop, Step.fin_done, Fin.get_fin, Fin.get_done, Step.fin_next, Bool.not_true, Bool.not_false, Option.getD_some]; done) | (exfalso; simp_all; done)
        exact congrArg (fun g : Bool => AV.one (.v (.bool g))) hg.symm
    · have hf1 := x1.fin (show ¬ x1.i < (p0.Spans).length by simpa using h2)
      refine ⟨_, _, c_spec_l1In p0.Id 1 999, (FzAs.same _), ?_⟩
      refine litE (m := 2) rfl ?_
      refine And.intro (fun (h5 : (spec_l1In p0.Id 1 999) = true) => ?_) (fun (h5 : (spec_l1In p0.Id 1 999) = false) => ?_)
      · refine And.intro (fun (h6 : (decide (p0.Stamp ≥ 1)) = true) => ?_) (fun (h6 : (decide (p0.Stamp ≥ 1)) = false) => ?_)
        · refine ⟨_, _, c_spec_l1In p0.First 0 2147483647, (FzAs.same _), ?_⟩
          refine litE (m := 3) rfl ?_
          refine And.intro (fun (h7 : (spec_l1In p0.First 0 2147483647) = true) => ?_) (fun (h7 : (spec_l1In p0.First 0 2147483647) = false) => ?_)
          · refine lenE (k := (p0.Spans).length) (by simp) (fun hN8 => ?_)
            refine And.intro (fun _ => .v _) ?_
            have hg : spec_TrailOk p0 = (decide ((((p0.Spans).length : Nat) : Int) ≥ 1)) := by
              first | rfl | (simp only [spec_TrailOk, spec_TrailOk_b1, h2, hf1, h5, h6, h7, cond_true, cond_false, Step.fin_stop, Step.fin_done, Fin.get_fin, Fin.get_done, Step.fin_next, Bool.not_true, Bool.not_false, Option.getD_some]; done) | (simp [spec_TrailOk, spec_TrailOk_b1, h2, hf1, h5, h6, h7, cond_true, cond_false, Step.fin_stop, Step.fin_done, Fin.get_fin, Fin.get_done, Step.fin_next, Bool.not_true, Bool.not_false, Option.getD_some]; done) | (exfalso; simp_all; done)
            exact congrArg (fun g : Bool => AV.one (.v (.bool g))) hg.symm
          · refine And.intro (fun _ => .v _) ?_
            have hg : spec_TrailOk p0 = false := by
              first | rfl | (simp only [spec_TrailOk, spec_TrailOk_b1, h2, hf1, h5, h6, h7, cond_true, cond_false, Step.fin_stop, Step.fin_done, Fin.get_fin, Fin.get_done, Step.fin_next, Bool.not_true, Bool.not_false, Option.getD_some]; done) | (simp [spec_TrailOk, spec_TrailOk_b1, h2, hf1, h5, h6, h7, cond_true, cond_false, Step.fin_stop, Step.fin_done, Fin.get_fin, Fin.get_done, Step.fin_next, Bool.not_true, Bool.not_false, Option.getD_some]; done) | (exfalso; simp_all; done)
            exact congrArg (fun g : Bool => AV.one (.v (.bool g))) hg.symm
        · refine And.intro (fun _ => .v _) ?_
          have hg : spec_TrailOk p0 = false := by
            first | rfl | (simp only [spec_TrailOk, spec_TrailOk_b1, h2, hf1, h5, h6, cond_true, cond_false, Step.fin_stop, Step.fin_done, Fin.get_fin, Fin.get_done, Step.fin_next, Bool.not_true, Bool.not_false, Option.getD_some]; done) | (simp [spec_TrailOk, spec_TrailOk_b1, h2, hf1, h5, h6, cond_true, cond_false, Step.fin_stop, Step.fin_done, Fin.get_fin, Fin.get_done, Step.fin_next, Bool.not_true, Bool.not_false, Option.getD_some]; done) | (exfalso; simp_all; done)
          exact congrArg (fun g : Bool => AV.one (.v (.bool g))) hg.symm
      · refine And.intro (fun _ => .v _) ?_
        have hg : spec_TrailOk p0 = false := by
          first | rfl | (simp only [spec_TrailOk, spec_TrailOk_b1, h2, hf1, h5, cond_true, cond_false, Step.fin_stop, Step.fin_done, Fin.get_fin, Fin.get_done, Step.fin_next, Bool.not_true, Bool.not_false, Option.getD_some]; done) | (simp [spec_TrailOk, spec_TrailOk_b1, h2, hf1, h5, cond_true, cond_false, Step.fin_stop, Step.fin_done, Fin.get_fin, Fin.get_done, Step.fin_next, Bool.not_true, Bool.not_false, Option.getD_some]; done) | (exfalso; simp_all; done)
        exact congrArg (fun g : Bool => AV.one (.v (.bool g))) hg.symm
def spec_l11Has_b1 (p1 : Int) (i1 : Nat) (s1 : Unit) (a1 : Int) : Step (Unit) Bool :=
  (bif (a1 == p1) then (.done true) else (.next ()))
def spec_l11Has (p0 : (List Int)) (p1 : Int) : Bool :=
  (Fin.get (fun s1 => false) (loopL (spec_l11Has_b1 p1) 0 () p0))
theorem c_spec_l11Has (p0 : (List Int)) (p1 : Int) : FnOk prog 89 [.one (.s false 1 (List.map cInt p0)), .one (.v (.int .i64 p1))] ⟨.one (.v (.bool (spec_l11Has p0 p1))), [], [], false⟩ := by
  refine FnOk.intro (E := env) envOk wide func89 rfl (by kernel_rfl) rfl rfl ?_
  refine loop_rule (α := LstSt (spec_l11Has_b1 p1) () p0) [0, 1] (fun x1 => [(5, .one (.v (.int .i64 ((x1.i : Nat) : Int))))]) (fun x1 => []) (fun x1 => (p0).length - x1.i) .init [] ?_ (fun x1 => ?_)
  · exact ⟨rfl, ⟨rfl, rfl, rfl, trivial⟩, trivial, trivial⟩
  · refine lenE (k := (p0).length) (by simp) (fun hN1 => ?_)
    refine And.intro (fun (h2 : (decide (((x1.i : Nat) : Int) < (((p0).length : Nat) : Int))) = true) => ?_) (fun (h2 : (decide (((x1.i : Nat) : Int) < (((p0).length : Nat) : Int))) = false) => ?_)
    · have hi1 : x1.i < (p0).length := by simpa using h2
      have hw1 : IntKind.i64.wrap ((x1.i : Int) + 1) = ((x1.i + 1 : Nat) : Int) := wrap_succ hi1 (by first | assumption | omega)
      refine And.intro (fun _ => by exact idx_at hi1) (rowAtE (i := x1.i) (l := p0) rfl hi1 ?_)
      refine And.intro (fun (h3 : ((p0[x1.i]'hi1) == p1) = true) => ?_) (fun (h3 : ((p0[x1.i]'hi1) == p1) = false) => ?_)
      · have hb1 := x1.out hi1 (by first | rfl | (simp only [spec_l11Has_b1, h2, h3, cond_true, cond_false, Bool.not_true, Bool.not_false, Option.getD_some, Step.isNext_stop, Step.isNext_done, Step.fin_stop, Step.fin_done, Fin.get_fin, Fin.get_done]; done) | (exfalso; simp_all; done))
        refine And.intro (fun _ => .v _) ?_
        have hg : spec_l11Has p0 p1 = true := by
          first | rfl | (simp only [spec_l11Has, spec_l11Has_b1, h2, h3, hb1, cond_true, cond_false, Step.fin_stop, Step.fin_done, Fin.get_fin, Fin.get_done, Step.fin_next, Bool.not_true, Bool.not_false, Option.getD_some]; done) | (simp [spec_l11Has, spec_l11Has_b1, h2, h3, hb1, cond_true, cond_false, Step.fin_stop, Step.fin_done, Fin.get_fin, Fin.get_done, Step.fin_next, Bool.not_true, Bool.not_false, Option.getD_some]; done) | (exfalso; simp_all; done)
        exact congrArg (fun g : Bool => AV.one (.v (.bool g))) hg.symm
      · refine x1.go hi1 (v := ()) (by first | rfl | (simp only [spec_l11Has_b1, h2, h3, cond_true, cond_false, Bool.not_true, Bool.not_false, Option.getD_some, Step.fin_stop, Step.fin_done, Fin.get_fin, Fin.get_done]; done) | (exfalso; simp_all; done)) [] (by show _ - (x1.i + 1) < _ - x1.i; omega) ?_
        exact ⟨rfl, ⟨(eqInt hw1), rfl, rfl, trivial⟩, trivial, trivial⟩
    · have hf1 := x1.fin (show ¬ x1.i < (p0).length by simpa using h2)
      refine And.intro (fun _ => .v _) ?_
      have hg : spec_l11Has p0 p1 = false := by
        first | rfl | (simp only [spec_l11Has, spec_l11Has_b1, h2, hf1, cond_true, cond_false, Step.fin_stop, Step.fin_done, Fin.get_fin, Fin.get_done, Step.fin_next, Bool.not_true, Bool.not_false, Option.getD_some]; done) | (simp [spec_l11Has, spec_l11Has_b1, h2, hf1, cond_true, cond_false, Step.fin_stop, Step.fin_done, Fin.get_fin, Fin.get_done, Step.fin_next, Bool.not_true, Bool.not_false, Option.getD_some]; done) | (exfalso; simp_all; done)
      exact congrArg (fun g : Bool => AV.one (.v (.bool g))) hg.symm
def spec_TotalOf_b1 (i1 : Nat) (s1 : Int) (a1 : Span) : Step (Int) Int :=
  (.next (IntKind.i64.wrap (s1 + (spec_SizeOf a1))))
def spec_TotalOf (p0 : (List Span)) : Int :=
  (Fin.get (fun s1 => s1) (loopL spec_TotalOf_b1 0 0 p0))
theorem c_spec_TotalOf (p0 : (List Span)) : FnOk prog 162 [.one (.s false 6 (List.map (Span.cells false) p0))] ⟨.one (.v (.int .i64 (spec_TotalOf p0))), [], [], false⟩ := by
  refine FnOk.intro (E := env) envOk wide func162 rfl (by kernel_rfl) rfl rfl ?_
  refine loop_rule (α := LstSt spec_TotalOf_b1 0 p0) [0] (fun x1 => [(3, .one (.v (.int .i64 x1.s))), (4, .one (.v (.int .i64 ((x1.i : Nat) : Int))))]) (fun x1 => []) (fun x1 => (p0).length - x1.i) .init [] ?_ (fun x1 => ?_)
  · exact ⟨rfl, ⟨rfl, rfl, rfl, trivial⟩, trivial, trivial⟩
  · refine lenE (k := (p0).length) (by simp) (fun hN1 => ?_)
    refine And.intro (fun (h2 : (decide (((x1.i : Nat) : Int) < (((p0).length : Nat) : Int))) = true) => ?_) (fun (h2 : (decide (((x1.i : Nat) : Int) < (((p0).length : Nat) : Int))) = false) => ?_)
    · have hi1 : x1.i < (p0).length := by simpa using h2
      have hw1 : IntKind.i64.wrap ((x1.i : Int) + 1) = ((x1.i + 1 : Nat) : Int) := wrap_succ hi1 (by first | assumption | omega)
      refine And.intro (fun _ => by exact idx_at hi1) (rowAtE (i := x1.i) (l := p0) rfl hi1 ?_)
      refine ⟨_, _, c_spec_SizeOf (p0[x1.i]'hi1), (FzAs.same _), ?_⟩
      refine litE (m := 1) rfl ?_
      refine x1.go hi1 (v := (IntKind.i64.wrap (x1.s + (spec_SizeOf (p0[x1.i]'hi1))))) (by first | rfl | (simp only [spec_TotalOf_b1, h2, cond_true, cond_false, Bool.not_true, Bool.not_false, Option.getD_some, Step.fin_stop, Step.fin_done, Fin.get_fin, Fin.get_done]; done) | (exfalso; simp_all; done)) [] (by show _ - (x1.i + 1) < _ - x1.i; omega) ?_
      exact ⟨rfl, ⟨rfl, (eqInt hw1), rfl, trivial⟩, trivial, trivial⟩
    · have hf1 := x1.fin (show ¬ x1.i < (p0).length by simpa using h2)
      refine And.intro (fun _ => .v _) ?_
      have hg : spec_TotalOf p0 = x1.s := by
        first | rfl | (simp only [spec_TotalOf, spec_TotalOf_b1, h2, hf1, cond_true, cond_false, Step.fin_stop, Step.fin_done, Fin.get_fin, Fin.get_done, Step.fin_next, Bool.not_true, Bool.not_false, Option.getD_some]; done) | (simp [spec_TotalOf, spec_TotalOf_b1, h2, hf1, cond_true, cond_false, Step.fin_stop, Step.fin_done, Fin.get_fin, Fin.get_done, Step.fin_next, Bool.not_true, Bool.not_false, Option.getD_some]; done) | (exfalso; simp_all; done)
      exact congrArg (fun g : Int => AV.one (.v (.int .i64 g))) hg.symm
def spec_BytesOf (p0 : Trail) : Int :=
  (spec_TotalOf p0.Spans)
theorem c_spec_BytesOf (p0 : Trail) : FnOk prog 90 [.agg ((Trail.cells false) p0)] ⟨.one (.v (.int .i64 (spec_BytesOf p0))), [], [], false⟩ := by
  refine FnOk.intro (E := env) envOk wide func90 rfl (by kernel_rfl) rfl rfl ?_
  refine litE (m := 0) rfl ?_
  refine ⟨_, _, c_spec_TotalOf p0.Spans, (FzAs.same _), ?_⟩
  refine litE (m := 2) rfl ?_
  refine And.intro (fun _ => .v _) ?_
  have hg : spec_BytesOf p0 = (spec_TotalOf p0.Spans) := by
    first | rfl | (simp only [spec_BytesOf, cond_true, cond_false, Step.fin_stop, Step.fin_done, Fin.get_fin, Fin.get_done, Step.fin_next, Bool.not_true, Bool.not_false, Option.getD_some]; done) | (simp [spec_BytesOf, cond_true, cond_false, Step.fin_stop, Step.fin_done, Fin.get_fin, Fin.get_done, Step.fin_next, Bool.not_true, Bool.not_false, Option.getD_some]; done) | (exfalso; simp_all; done)
  exact congrArg (fun g : Int => AV.one (.v (.int .i64 g))) hg.symm
def spec_PolCount_b1 (r0 : (Pol → Int)) (i1 : Nat) (s1 : Int) (a1 : Pol) : Step (Int) Int :=
  (.next (IntKind.i64.wrap (s1 + (r0 a1))))
def spec_PolCountR : Nat → Pol → Int
  | 0, _ => default
  | n + 1, p0 => (Fin.get (fun s1 => s1) (loopL (spec_PolCount_b1 (spec_PolCountR n)) 0 1 p0.L))
theorem cR_spec_PolCount : ∀ (n : Nat) (p0 : Pol), Pol.dep p0 < n → FnOk prog 192 [.agg (Pol.opn false p0)] ⟨.one (.v (.int .i64 (spec_PolCountR n p0))), [], [], false⟩ := by
  intro n
  induction n with
  | zero => intro p0 hd0; omega
  | succ n ih =>
    intro p0 hd0
    refine FnOk.intro (E := env) envOk wide func192 rfl (by kernel_rfl) rfl rfl ?_
    refine litE (m := 0) rfl ?_
    refine loop_rule (α := LstSt (spec_PolCount_b1 (spec_PolCountR n)) 1 p0.L) [1] (fun x1 => [(3, .one (.v (.int .i64 x1.s))), (4, .one (.v (.int .i64 ((x1.i : Nat) : Int))))]) (fun x1 => [.keep 0]) (fun x1 => (p0.L).length - x1.i) .init [some 0] ?_ (fun x1 => ?_)
    · exact ⟨rfl, ⟨rfl, rfl, ⟨rfl, rfl, rfl, rfl⟩, trivial⟩, ⟨⟨rfl, rfl, ⟨rfl, rfl, rfl, rfl, rfl, trivial⟩⟩, trivial⟩, trivial⟩
    · refine lenE (k := (p0.L).length) (by simp) (fun hN1 => ?_)
      refine And.intro (fun (h2 : (decide (((x1.i : Nat) : Int) < (((p0.L).length : Nat) : Int))) = true) => ?_) (fun (h2 : (decide (((x1.i : Nat) : Int) < (((p0.L).length : Nat) : Int))) = false) => ?_)
      · have hi1 : x1.i < (p0.L).length := by simpa using h2
        have hw1 : IntKind.i64.wrap ((x1.i : Int) + 1) = ((x1.i + 1 : Nat) : Int) := wrap_succ hi1 (by first | assumption | omega)
        refine And.intro (fun _ => by (first | omega | (simp; done) | (simp; omega) | (simp at *; omega) | (simp at *; done) | (simp_all; done) | (simp_all; omega))) (rowAtR (Pol.cells_eq false) (i := x1.i) (l := p0.L) rfl hi1 ?_)
        refine ⟨_, _, ih (p0.L[x1.i]'hi1) (by first | exact hm0 _ (List.getElem_mem _) | exact hm0 _ (List.mem_of_getElem? (by assumption)) | exact Nat.lt_of_lt_of_le (Pol.dep_lt (List.getElem_mem _)) (Nat.le_of_lt_succ hd0) | exact Nat.lt_of_lt_of_le (Pol.dep_lt (List.mem_of_getElem? (by assumption))) (Nat.le_of_lt_succ hd0)), (FzAs.same _), ?_⟩
        refine litE (m := 2) rfl ?_
        refine x1.go hi1 (v := (IntKind.i64.wrap (x1.s + ((spec_PolCountR n) (p0.L[x1.i]'hi1))))) (by first | rfl | (simp only [spec_PolCount_b1, h2, cond_true, cond_false, Bool.not_true, Bool.not_false, Option.getD_some, Step.fin_stop, Step.fin_done, Fin.get_fin, Fin.get_done]; done) | (exfalso; simp_all; done)) [some 0] (by show _ - (x1.i + 1) < _ - x1.i; omega) ?_
        exact ⟨rfl, ⟨rfl, (eqInt hw1), ⟨rfl, rfl, rfl, rfl⟩, trivial⟩, ⟨⟨rfl, rfl, ⟨rfl, rfl, rfl, rfl, rfl, trivial⟩⟩, trivial⟩, trivial⟩
      · have hf1 := x1.fin (show ¬ x1.i < (p0.L).length by simpa using h2)
        refine And.intro (fun _ => .v _) ?_
        have hg : (spec_PolCountR (n + 1) p0) = x1.s := by
          first | rfl | (simp only [spec_PolCountR, spec_PolCount_b1, h2, hf1, cond_true, cond_false, Step.fin_stop, Step.fin_done, Fin.get_fin, Fin.get_done, Step.fin_next, Bool.not_true, Bool.not_false, Option.getD_some]; done) | (simp [spec_PolCountR, spec_PolCount_b1, h2, hf1, cond_true, cond_false, Step.fin_stop, Step.fin_done, Fin.get_fin, Fin.get_done, Step.fin_next, Bool.not_true, Bool.not_false, Option.getD_some]; done) | (exfalso; simp_all; done)
        exact congrArg (fun g : Int => AV.one (.v (.int .i64 g))) hg.symm
def spec_PolCount (p0 : Pol) : Int := spec_PolCountR (Pol.dep p0 + 1) p0
theorem c_spec_PolCount (p0 : Pol) : FnOk prog 192 [.agg (Pol.opn false p0)] ⟨.one (.v (.int .i64 (spec_PolCount p0))), [], [], false⟩ := cR_spec_PolCount _ p0 (Nat.lt_succ_self _)
def spec_l5One (p0 : Pol) : Bool :=
  (bif (p0.Kind == 1) then (bif (p0.Kind == 1) then (bif (p0.N == 0) then (bif (decide (p0.Key = (ByteArray.mk #[]))) then (bif (decide (p0.Text = (ByteArray.mk #[]))) then ((((p0.L).length : Nat) : Int) == 0) else false) else false) else false) else (bif (p0.Kind == 3) then (bif (spec_l1In p0.N 0 2147483647) then (bif (decide (p0.Key = (ByteArray.mk #[]))) then (bif (decide (p0.Text = (ByteArray.mk #[]))) then ((((p0.L).length : Nat) : Int) == 0) else false) else false) else false) else (bif (p0.Kind == 4) then (bif (p0.N == 0) then (bif (spec_NameOk p0.Key) then (bif (spec_PlainOk p0.Text) then ((((p0.L).length : Nat) : Int) == 0) else false) else false) else false) else (bif (p0.Kind == 5) then (bif (spec_l1In p0.N 0 2147483647) then (bif (spec_NameOk p0.Key) then (bif (decide (p0.Text = (ByteArray.mk #[]))) then ((((p0.L).length : Nat) : Int) == 0) else false) else false) else false) else (bif (p0.Kind == 7) then (bif (p0.Kind == 7) then (bif (p0.N == 0) then (bif (decide (p0.Key = (ByteArray.mk #[]))) then (bif (decide (p0.Text = (ByteArray.mk #[]))) then (spec_l1In (((p0.L).length : Nat) : Int) 1 4) else false) else false) else false) else (bif (p0.Kind == 9) then (bif (p0.N == 0) then (bif (decide (p0.Key = (ByteArray.mk #[]))) then (bif (decide (p0.Text = (ByteArray.mk #[]))) then ((((p0.L).length : Nat) : Int) == 1) else false) else false) else false) else false)) else (bif (p0.Kind == 8) then (bif (p0.N == 0) then (bif (decide (p0.Key = (ByteArray.mk #[]))) then (bif (decide (p0.Text = (ByteArray.mk #[]))) then (spec_l1In (((p0.L).length : Nat) : Int) 1 4) else false) else false) else false) else (bif (p0.Kind == 9) then (bif (p0.N == 0) then (bif (decide (p0.Key = (ByteArray.mk #[]))) then (bif (decide (p0.Text = (ByteArray.mk #[]))) then ((((p0.L).length : Nat) : Int) == 1) else false) else false) else false) else false))))))) else (bif (p0.Kind == 2) then (bif (p0.Kind == 2) then (bif (p0.N == 0) then (bif (decide (p0.Key = (ByteArray.mk #[]))) then (bif (decide (p0.Text = (ByteArray.mk #[]))) then ((((p0.L).length : Nat) : Int) == 0) else false) else false) else false) else (bif (p0.Kind == 3) then (bif (spec_l1In p0.N 0 2147483647) then (bif (decide (p0.Key = (ByteArray.mk #[]))) then (bif (decide (p0.Text = (ByteArray.mk #[]))) then ((((p0.L).length : Nat) : Int) == 0) else false) else false) else false) else (bif (p0.Kind == 4) then (bif (p0.N == 0) then (bif (spec_NameOk p0.Key) then (bif (spec_PlainOk p0.Text) then ((((p0.L).length : Nat) : Int) == 0) else false) else false) else false) else (bif (p0.Kind == 5) then (bif (spec_l1In p0.N 0 2147483647) then (bif (spec_NameOk p0.Key) then (bif (decide (p0.Text = (ByteArray.mk #[]))) then ((((p0.L).length : Nat) : Int) == 0) else false) else false) else false) else (bif (p0.Kind == 7) then (bif (p0.Kind == 7) then (bif (p0.N == 0) then (bif (decide (p0.Key = (ByteArray.mk #[]))) then (bif (decide (p0.Text = (ByteArray.mk #[]))) then (spec_l1In (((p0.L).length : Nat) : Int) 1 4) else false) else false) else false) else (bif (p0.Kind == 9) then (bif (p0.N == 0) then (bif (decide (p0.Key = (ByteArray.mk #[]))) then (bif (decide (p0.Text = (ByteArray.mk #[]))) then ((((p0.L).length : Nat) : Int) == 1) else false) else false) else false) else false)) else (bif (p0.Kind == 8) then (bif (p0.N == 0) then (bif (decide (p0.Key = (ByteArray.mk #[]))) then (bif (decide (p0.Text = (ByteArray.mk #[]))) then (spec_l1In (((p0.L).length : Nat) : Int) 1 4) else false) else false) else false) else (bif (p0.Kind == 9) then (bif (p0.N == 0) then (bif (decide (p0.Key = (ByteArray.mk #[]))) then (bif (decide (p0.Text = (ByteArray.mk #[]))) then ((((p0.L).length : Nat) : Int) == 1) else false) else false) else false) else false))))))) else (bif (p0.Kind == 6) then (bif (p0.N == 0) then (bif (decide (p0.Key = (ByteArray.mk #[]))) then (bif (decide (p0.Text = (ByteArray.mk #[]))) then ((((p0.L).length : Nat) : Int) == 0) else false) else false) else false) else (bif (p0.Kind == 3) then (bif (spec_l1In p0.N 0 2147483647) then (bif (decide (p0.Key = (ByteArray.mk #[]))) then (bif (decide (p0.Text = (ByteArray.mk #[]))) then ((((p0.L).length : Nat) : Int) == 0) else false) else false) else false) else (bif (p0.Kind == 4) then (bif (p0.N == 0) then (bif (spec_NameOk p0.Key) then (bif (spec_PlainOk p0.Text) then ((((p0.L).length : Nat) : Int) == 0) else false) else false) else false) else (bif (p0.Kind == 5) then (bif (spec_l1In p0.N 0 2147483647) then (bif (spec_NameOk p0.Key) then (bif (decide (p0.Text = (ByteArray.mk #[]))) then ((((p0.L).length : Nat) : Int) == 0) else false) else false) else false) else (bif (p0.Kind == 7) then (bif (p0.Kind == 7) then (bif (p0.N == 0) then (bif (decide (p0.Key = (ByteArray.mk #[]))) then (bif (decide (p0.Text = (ByteArray.mk #[]))) then (spec_l1In (((p0.L).length : Nat) : Int) 1 4) else false) else false) else false) else (bif (p0.Kind == 9) then (bif (p0.N == 0) then (bif (decide (p0.Key = (ByteArray.mk #[]))) then (bif (decide (p0.Text = (ByteArray.mk #[]))) then ((((p0.L).length : Nat) : Int) == 1) else false) else false) else false) else false)) else (bif (p0.Kind == 8) then (bif (p0.N == 0) then (bif (decide (p0.Key = (ByteArray.mk #[]))) then (bif (decide (p0.Text = (ByteArray.mk #[]))) then (spec_l1In (((p0.L).length : Nat) : Int) 1 4) else false) else false) else false) else (bif (p0.Kind == 9) then (bif (p0.N == 0) then (bif (decide (p0.Key = (ByteArray.mk #[]))) then (bif (decide (p0.Text = (ByteArray.mk #[]))) then ((((p0.L).length : Nat) : Int) == 1) else false) else false) else false) else false)))))))))
end Go.Proofs.Try.Ev
