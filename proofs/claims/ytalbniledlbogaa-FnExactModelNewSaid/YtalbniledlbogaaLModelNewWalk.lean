import Derived.Test.YtalbniledlbogaaLTabsModelNew
import Derived.Test.YtalbniledlbogaaEvCnt
import Derived.Test.YtalbniledlbogaaEvS
set_option linter.unusedSectionVars false
namespace Go.Proofs.Try.Ev
open Go Go.Ev Go.Proofs
set_option maxHeartbeats 4000000
set_option maxRecDepth 100000
set_option linter.unusedSimpArgs false
set_option linter.unusedVariables false
set_option linter.unusedSectionVars false
structure Pol where
  Kind : Int
  N : Int
  Key : ByteArray
  Text : ByteArray
  L : (List Pol)
instance : Inhabited Pol := ⟨⟨0, 0, ByteArray.empty, ByteArray.empty, []⟩⟩
mutual
def Pol.dep : Pol → Nat
  | ⟨y0, y1, y2, y3, y4⟩ => Pol.depL y4 + 1
def Pol.depL : List Pol → Nat
  | [] => 0
  | p :: l => max (Pol.dep p) (Pol.depL l)
end
theorem Pol.depL_mem : ∀ {l : List Pol} {x : Pol}, x ∈ l → Pol.dep x ≤ Pol.depL l
  | p :: l, x, h => by
    simp only [Pol.depL]
    rcases List.mem_cons.1 h with rfl | h
    · omega
    · have := Pol.depL_mem h
      omega
theorem Pol.dep_lt {x y : Pol} (h : x ∈ y.L) : Pol.dep x < Pol.dep y := by
  obtain ⟨y0, y1, y2, y3, y4⟩ := y
  have := Pol.depL_mem (l := y4) h
  simp only [Pol.dep]
  omega
mutual
def Pol.cells (o : Bool) : Pol → List T
  | ⟨y0, y1, y2, y3, y4⟩ => [.v (.int .i64 y0), .v (.int .i64 y1), .v (.string y2), .v (.string y3), .s o 5 (Pol.cellsL o y4)]
def Pol.cellsL (o : Bool) : List Pol → List (List T)
  | [] => []
  | p :: l => Pol.cells o p :: Pol.cellsL o l
end
theorem Pol.cellsL_eq (o : Bool) : ∀ l : List Pol, Pol.cellsL o l = List.map (Pol.cells o) l
  | [] => rfl
  | p :: l => by simp only [Pol.cellsL, List.map_cons, Pol.cellsL_eq o l]
def Pol.opn (o : Bool) (x : Pol) : List T := [.v (.int .i64 x.Kind), .v (.int .i64 x.N), .v (.string x.Key), .v (.string x.Text), .s o 5 (List.map (Pol.cells o) x.L)]
theorem Pol.cells_eq (o : Bool) (x : Pol) : Pol.cells o x = Pol.opn o x := by
  obtain ⟨y0, y1, y2, y3, y4⟩ := x
  simp only [Pol.cells, Pol.opn, Pol.cellsL_eq]
theorem own_Pol (x : Pol) : OwnL (Pol.cells true x) := by
  rw [Pol.cells_eq]
  exact ⟨.v _, .v _, .v _, .v _, ownSlM (fun x hx => own_Pol x), trivial⟩
termination_by Pol.dep x
decreasing_by exact Pol.dep_lt hx
theorem ownO_Pol (x : Pol) : OwnL (Pol.opn true x) := by
  rw [← Pol.cells_eq]; exact own_Pol x
theorem frz_Pol {o : Bool} (x : Pol) : frzL (Pol.cells o x) = Pol.cells false x := by
  rw [Pol.cells_eq, Pol.cells_eq]
  show [T.v (.int .i64 x.Kind), T.v (.int .i64 x.N), T.v (.string x.Key), T.v (.string x.Text), T.s false 5 (frzLL (List.map (Pol.cells o) x.L))] = _
  rw [frzMapM (f := Pol.cells o) (g := Pol.cells false) (fun y hy => frz_Pol y)]
  rfl
termination_by Pol.dep x
decreasing_by exact Pol.dep_lt hy
theorem frzO_Pol {o : Bool} (x : Pol) : frzL (Pol.opn o x) = Pol.opn false x := by
  rw [← Pol.cells_eq, ← Pol.cells_eq]; exact frz_Pol x
theorem sh_Pol (x : Pol) : (Pol.cells false x).map T.sh = Pol.cells false x := by rw [Pol.cells_eq]; rfl
theorem fz_Pol {o : Bool} (x : Pol) : (Pol.cells o x).map T.fz = Pol.cells false x := by
  rw [Pol.cells_eq, Pol.cells_eq]
  show [T.v (.int .i64 x.Kind), T.v (.int .i64 x.N), T.v (.string x.Key), T.v (.string x.Text), T.s false 5 (frzLL (List.map (Pol.cells o) x.L))] = _
  rw [frzMap (f := Pol.cells o) (g := Pol.cells false) frz_Pol]
  rfl
mutual
def Pol.bd (M : Nat) : Pol → Prop
  | ⟨y0, y1, y2, y3, y4⟩ => y2.size ≤ M ∧ y3.size ≤ M ∧ (y4.length ≤ M ∧ Pol.bdL M y4)
def Pol.bdL (M : Nat) : List Pol → Prop
  | [] => True
  | p :: l => Pol.bd M p ∧ Pol.bdL M l
end
theorem Pol.bdL_iff {M : Nat} : ∀ {l : List Pol}, Pol.bdL M l ↔ ∀ x ∈ l, Pol.bd M x
  | [] => by simp [Pol.bdL]
  | p :: l => by simp [Pol.bdL, Pol.bdL_iff (l := l)]
theorem Pol.bd_eq {M : Nat} {x : Pol} : Pol.bd M x ↔ x.Key.size ≤ M ∧ x.Text.size ≤ M ∧ bdS Pol.bd M x.L := by
  obtain ⟨y0, y1, y2, y3, y4⟩ := x
  simp only [Pol.bd, bdS, Pol.bdL_iff]
structure Conf where
  Stripes : Int
  Wait : Int
  Budget : Int
  Cache : Int
  Queue : Int
  Rate : Int
  Burst : Int
  Rule : Pol
deriving Inhabited
def Conf.cells (o : Bool) (x : Conf) : List T := [.v (.int .i64 x.Stripes), .v (.int .i64 x.Wait), .v (.int .i64 x.Budget), .v (.int .i64 x.Cache), .v (.int .i64 x.Queue), .v (.int .i64 x.Rate), .v (.int .i64 x.Burst), .v (.int .i64 x.Rule.Kind), .v (.int .i64 x.Rule.N), .v (.string x.Rule.Key), .v (.string x.Rule.Text), .s o 5 (List.map (Pol.cells o) x.Rule.L)]
theorem own_Conf (x : Conf) : OwnL (Conf.cells true x) := ⟨.v _, .v _, .v _, .v _, .v _, .v _, .v _, .v _, .v _, .v _, .v _, ownSl own_Pol _, trivial⟩
theorem frz_Conf {o : Bool} (x : Conf) : frzL (Conf.cells o x) = Conf.cells false x := by
  show [T.v (.int .i64 x.Stripes), T.v (.int .i64 x.Wait), T.v (.int .i64 x.Budget), T.v (.int .i64 x.Cache), T.v (.int .i64 x.Queue), T.v (.int .i64 x.Rate), T.v (.int .i64 x.Burst), T.v (.int .i64 x.Rule.Kind), T.v (.int .i64 x.Rule.N), T.v (.string x.Rule.Key), T.v (.string x.Rule.Text), T.s false 5 (frzLL (List.map (Pol.cells o) x.Rule.L))] = _
  rw [frzMap (f := (Pol.cells o)) (g := (Pol.cells false)) frz_Pol x.Rule.L]
  rfl
theorem sh_Conf (x : Conf) : (Conf.cells false x).map T.sh = Conf.cells false x := rfl
theorem fz_Conf {o : Bool} (x : Conf) : (Conf.cells o x).map T.fz = Conf.cells false x := by
  show [T.v (.int .i64 x.Stripes), T.v (.int .i64 x.Wait), T.v (.int .i64 x.Budget), T.v (.int .i64 x.Cache), T.v (.int .i64 x.Queue), T.v (.int .i64 x.Rate), T.v (.int .i64 x.Burst), T.v (.int .i64 x.Rule.Kind), T.v (.int .i64 x.Rule.N), T.v (.string x.Rule.Key), T.v (.string x.Rule.Text), T.s false 5 (frzLL (List.map (Pol.cells o) x.Rule.L))] = _
  rw [frzMap (f := (Pol.cells o)) (g := (Pol.cells false)) frz_Pol x.Rule.L]
  rfl
def Conf.bd (M : Nat) (x : Conf) : Prop := Pol.bd M x.Rule
def Conf.rg (x : Conf) : Prop := I64 x.Stripes ∧ I64 x.Wait ∧ I64 x.Budget ∧ I64 x.Cache ∧ I64 x.Queue ∧ I64 x.Rate ∧ I64 x.Burst ∧ I64 x.Rule.Kind ∧ I64 x.Rule.N ∧ (x.Rule.Key).size ≤ 9223372036854775807 ∧ (x.Rule.Text).size ≤ 9223372036854775807 ∧ ((x.Rule.L).length ≤ 9223372036854775807 ∧ ∀ y ∈ x.Rule.L, True) ∧ True
theorem rg_Conf {o : Bool} {x : Conf} (h : fitL (Conf.cells o x)) : Conf.rg x := ⟨(range_of_fit h.1), (range_of_fit h.2.1), (range_of_fit h.2.2.1), (range_of_fit h.2.2.2.1), (range_of_fit h.2.2.2.2.1), (range_of_fit h.2.2.2.2.2.1), (range_of_fit h.2.2.2.2.2.2.1), (range_of_fit h.2.2.2.2.2.2.2.1), (range_of_fit h.2.2.2.2.2.2.2.2.1), (Nat.le_of_ble_eq_true h.2.2.2.2.2.2.2.2.2.1), (Nat.le_of_ble_eq_true h.2.2.2.2.2.2.2.2.2.2.1), ⟨by simpa using h.2.2.2.2.2.2.2.2.2.2.2.1.1, fun y0 hy0 => trivial⟩, trivial⟩
theorem Conf.rg.Stripes {x : Conf} (h : Conf.rg x) : I64 x.Stripes := h.1
theorem Conf.rg.Wait {x : Conf} (h : Conf.rg x) : I64 x.Wait := h.2.1
theorem Conf.rg.Budget {x : Conf} (h : Conf.rg x) : I64 x.Budget := h.2.2.1
theorem Conf.rg.Cache {x : Conf} (h : Conf.rg x) : I64 x.Cache := h.2.2.2.1
theorem Conf.rg.Queue {x : Conf} (h : Conf.rg x) : I64 x.Queue := h.2.2.2.2.1
theorem Conf.rg.Rate {x : Conf} (h : Conf.rg x) : I64 x.Rate := h.2.2.2.2.2.1
theorem Conf.rg.Burst {x : Conf} (h : Conf.rg x) : I64 x.Burst := h.2.2.2.2.2.2.1
structure Bucket where
  Rate : Int
  Burst : Int
  Tokens : Int
  At : Int
deriving DecidableEq, Inhabited
def Bucket.cells (x : Bucket) : List T := [.v (.int .i64 x.Rate), .v (.int .i64 x.Burst), .v (.int .i64 x.Tokens), .v (.int .i64 x.At)]
theorem own_Bucket (x : Bucket) : OwnL (Bucket.cells x) := ⟨.v _, .v _, .v _, .v _, trivial⟩
theorem frz_Bucket (x : Bucket) : frzL (Bucket.cells x) = Bucket.cells x := rfl
theorem fz_Bucket (x : Bucket) : (Bucket.cells x).map T.fz = Bucket.cells x := rfl
theorem fl_Bucket (x : Bucket) : (Bucket.cells x).map T.flat = Bucket.cells x := rfl
def Bucket.bd (M : Nat) (x : Bucket) : Prop := True
def Bucket.rg (x : Bucket) : Prop := I64 x.Rate ∧ I64 x.Burst ∧ I64 x.Tokens ∧ I64 x.At ∧ True
theorem rg_Bucket {x : Bucket} (h : fitL (Bucket.cells x)) : Bucket.rg x := ⟨(range_of_fit h.1), (range_of_fit h.2.1), (range_of_fit h.2.2.1), (range_of_fit h.2.2.2.1), trivial⟩
theorem Bucket.rg.Rate {x : Bucket} (h : Bucket.rg x) : I64 x.Rate := h.1
theorem Bucket.rg.Burst {x : Bucket} (h : Bucket.rg x) : I64 x.Burst := h.2.1
theorem Bucket.rg.Tokens {x : Bucket} (h : Bucket.rg x) : I64 x.Tokens := h.2.2.1
theorem Bucket.rg.At {x : Bucket} (h : Bucket.rg x) : I64 x.At := h.2.2.2.1
structure Attr where
  Key : ByteArray
  Num : Bool
  N : Int
  Text : ByteArray
deriving DecidableEq, Inhabited
def Attr.cells (x : Attr) : List T := [.v (.string x.Key), .v (.bool x.Num), .v (.int .i64 x.N), .v (.string x.Text)]
theorem own_Attr (x : Attr) : OwnL (Attr.cells x) := ⟨.v _, .v _, .v _, .v _, trivial⟩
theorem frz_Attr (x : Attr) : frzL (Attr.cells x) = Attr.cells x := rfl
theorem fz_Attr (x : Attr) : (Attr.cells x).map T.fz = Attr.cells x := rfl
theorem fl_Attr (x : Attr) : (Attr.cells x).map T.flat = Attr.cells x := rfl
def Attr.bd (M : Nat) (x : Attr) : Prop := x.Key.size ≤ M ∧ x.Text.size ≤ M
def Attr.rg (x : Attr) : Prop := (x.Key).size ≤ 9223372036854775807 ∧ True ∧ I64 x.N ∧ (x.Text).size ≤ 9223372036854775807 ∧ True
theorem rg_Attr {x : Attr} (h : fitL (Attr.cells x)) : Attr.rg x := ⟨(Nat.le_of_ble_eq_true h.1), trivial, (range_of_fit h.2.2.1), (Nat.le_of_ble_eq_true h.2.2.2.1), trivial⟩
theorem Attr.rg.Key {x : Attr} (h : Attr.rg x) : (x.Key).size ≤ 9223372036854775807 := h.1
theorem Attr.rg.N {x : Attr} (h : Attr.rg x) : I64 x.N := h.2.2.1
theorem Attr.rg.Text {x : Attr} (h : Attr.rg x) : (x.Text).size ≤ 9223372036854775807 := h.2.2.2.1
structure Span where
  Trace : Int
  Id : Int
  Start : Int
  End : Int
  Err : Bool
  Attrs : (List Attr)
deriving DecidableEq, Inhabited
def Span.cells (o : Bool) (x : Span) : List T := [.v (.int .i64 x.Trace), .v (.int .i64 x.Id), .v (.int .i64 x.Start), .v (.int .i64 x.End), .v (.bool x.Err), .s o 4 (List.map Attr.cells x.Attrs)]
theorem own_Span (x : Span) : OwnL (Span.cells true x) := ⟨.v _, .v _, .v _, .v _, .v _, ownSl own_Attr _, trivial⟩
theorem frz_Span {o : Bool} (x : Span) : frzL (Span.cells o x) = Span.cells false x := by
  show [T.v (.int .i64 x.Trace), T.v (.int .i64 x.Id), T.v (.int .i64 x.Start), T.v (.int .i64 x.End), T.v (.bool x.Err), T.s false 4 (frzLL (List.map Attr.cells x.Attrs))] = _
  rw [frzMap (f := Attr.cells) (g := Attr.cells) frz_Attr x.Attrs]
  rfl
theorem sh_Span (x : Span) : (Span.cells false x).map T.sh = Span.cells false x := rfl
theorem fz_Span {o : Bool} (x : Span) : (Span.cells o x).map T.fz = Span.cells false x := by
  show [T.v (.int .i64 x.Trace), T.v (.int .i64 x.Id), T.v (.int .i64 x.Start), T.v (.int .i64 x.End), T.v (.bool x.Err), T.s false 4 (frzLL (List.map Attr.cells x.Attrs))] = _
  rw [frzMap (f := Attr.cells) (g := Attr.cells) frz_Attr x.Attrs]
  rfl
def Span.bd (M : Nat) (x : Span) : Prop := bdS Attr.bd M x.Attrs
def Span.rg (x : Span) : Prop := I64 x.Trace ∧ I64 x.Id ∧ I64 x.Start ∧ I64 x.End ∧ True ∧ ((x.Attrs).length ≤ 9223372036854775807 ∧ ∀ y ∈ x.Attrs, Attr.rg y) ∧ True
theorem rg_Span {o : Bool} {x : Span} (h : fitL (Span.cells o x)) : Span.rg x := ⟨(range_of_fit h.1), (range_of_fit h.2.1), (range_of_fit h.2.2.1), (range_of_fit h.2.2.2.1), trivial, ⟨by simpa using h.2.2.2.2.2.1.1, fun y0 hy0 => (rg_Attr (fitLL_map h.2.2.2.2.2.1.2 y0 hy0))⟩, trivial⟩
theorem Span.rg.Trace {x : Span} (h : Span.rg x) : I64 x.Trace := h.1
theorem Span.rg.Id {x : Span} (h : Span.rg x) : I64 x.Id := h.2.1
theorem Span.rg.Start {x : Span} (h : Span.rg x) : I64 x.Start := h.2.2.1
theorem Span.rg.End {x : Span} (h : Span.rg x) : I64 x.End := h.2.2.2.1
theorem Span.rg.Attrs {x : Span} (h : Span.rg x) : ((x.Attrs).length ≤ 9223372036854775807 ∧ ∀ y ∈ x.Attrs, Attr.rg y) := h.2.2.2.2.2.1
structure Trail where
  Id : Int
  Stamp : Int
  First : Int
  Spans : (List Span)
deriving DecidableEq, Inhabited
def Trail.cells (o : Bool) (x : Trail) : List T := [.v (.int .i64 x.Id), .v (.int .i64 x.Stamp), .v (.int .i64 x.First), .s o 6 (List.map (Span.cells o) x.Spans)]
theorem own_Trail (x : Trail) : OwnL (Trail.cells true x) := ⟨.v _, .v _, .v _, ownSl own_Span _, trivial⟩
theorem frz_Trail {o : Bool} (x : Trail) : frzL (Trail.cells o x) = Trail.cells false x := by
  show [T.v (.int .i64 x.Id), T.v (.int .i64 x.Stamp), T.v (.int .i64 x.First), T.s false 6 (frzLL (List.map (Span.cells o) x.Spans))] = _
  rw [frzMap (f := (Span.cells o)) (g := (Span.cells false)) frz_Span x.Spans]
  rfl
theorem sh_Trail (x : Trail) : (Trail.cells false x).map T.sh = Trail.cells false x := rfl
theorem fz_Trail {o : Bool} (x : Trail) : (Trail.cells o x).map T.fz = Trail.cells false x := by
  show [T.v (.int .i64 x.Id), T.v (.int .i64 x.Stamp), T.v (.int .i64 x.First), T.s false 6 (frzLL (List.map (Span.cells o) x.Spans))] = _
  rw [frzMap (f := (Span.cells o)) (g := (Span.cells false)) frz_Span x.Spans]
  rfl
def Trail.bd (M : Nat) (x : Trail) : Prop := bdS Span.bd M x.Spans
def Trail.rg (x : Trail) : Prop := I64 x.Id ∧ I64 x.Stamp ∧ I64 x.First ∧ ((x.Spans).length ≤ 9223372036854775807 ∧ ∀ y ∈ x.Spans, Span.rg y) ∧ True
theorem rg_Trail {o : Bool} {x : Trail} (h : fitL (Trail.cells o x)) : Trail.rg x := ⟨(range_of_fit h.1), (range_of_fit h.2.1), (range_of_fit h.2.2.1), ⟨by simpa using h.2.2.2.1.1, fun y0 hy0 => (rg_Span (fitLL_map h.2.2.2.1.2 y0 hy0))⟩, trivial⟩
theorem Trail.rg.Id {x : Trail} (h : Trail.rg x) : I64 x.Id := h.1
theorem Trail.rg.Stamp {x : Trail} (h : Trail.rg x) : I64 x.Stamp := h.2.1
theorem Trail.rg.First {x : Trail} (h : Trail.rg x) : I64 x.First := h.2.2.1
theorem Trail.rg.Spans {x : Trail} (h : Trail.rg x) : ((x.Spans).length ≤ 9223372036854775807 ∧ ∀ y ∈ x.Spans, Span.rg y) := h.2.2.2.1
structure Verdict where
  Trace : Int
  Stamp : Int
  Keep : Bool
deriving DecidableEq, Inhabited
def Verdict.cells (x : Verdict) : List T := [.v (.int .i64 x.Trace), .v (.int .i64 x.Stamp), .v (.bool x.Keep)]
theorem own_Verdict (x : Verdict) : OwnL (Verdict.cells x) := ⟨.v _, .v _, .v _, trivial⟩
theorem frz_Verdict (x : Verdict) : frzL (Verdict.cells x) = Verdict.cells x := rfl
theorem fz_Verdict (x : Verdict) : (Verdict.cells x).map T.fz = Verdict.cells x := rfl
theorem fl_Verdict (x : Verdict) : (Verdict.cells x).map T.flat = Verdict.cells x := rfl
def Verdict.bd (M : Nat) (x : Verdict) : Prop := True
def Verdict.rg (x : Verdict) : Prop := I64 x.Trace ∧ I64 x.Stamp ∧ True ∧ True
theorem rg_Verdict {x : Verdict} (h : fitL (Verdict.cells x)) : Verdict.rg x := ⟨(range_of_fit h.1), (range_of_fit h.2.1), trivial, trivial⟩
theorem Verdict.rg.Trace {x : Verdict} (h : Verdict.rg x) : I64 x.Trace := h.1
theorem Verdict.rg.Stamp {x : Verdict} (h : Verdict.rg x) : I64 x.Stamp := h.2.1
structure Model where
  C : Conf
  Shut : Bool
  Open : (List Trail)
  Cache : (List Verdict)
  B : Bucket
  Used : Int
deriving Inhabited
def Model.cells (o : Bool) (x : Model) : List T := [.v (.int .i64 x.C.Stripes), .v (.int .i64 x.C.Wait), .v (.int .i64 x.C.Budget), .v (.int .i64 x.C.Cache), .v (.int .i64 x.C.Queue), .v (.int .i64 x.C.Rate), .v (.int .i64 x.C.Burst), .v (.int .i64 x.C.Rule.Kind), .v (.int .i64 x.C.Rule.N), .v (.string x.C.Rule.Key), .v (.string x.C.Rule.Text), .s o 5 (List.map (Pol.cells o) x.C.Rule.L), .v (.bool x.Shut), .s o 4 (List.map (Trail.cells o) x.Open), .s o 3 (List.map Verdict.cells x.Cache), .v (.int .i64 x.B.Rate), .v (.int .i64 x.B.Burst), .v (.int .i64 x.B.Tokens), .v (.int .i64 x.B.At), .v (.int .i64 x.Used)]
theorem own_Model (x : Model) : OwnL (Model.cells true x) := ⟨.v _, .v _, .v _, .v _, .v _, .v _, .v _, .v _, .v _, .v _, .v _, ownSl own_Pol _, .v _, ownSl own_Trail _, ownSl own_Verdict _, .v _, .v _, .v _, .v _, .v _, trivial⟩
theorem frz_Model {o : Bool} (x : Model) : frzL (Model.cells o x) = Model.cells false x := by
  show [T.v (.int .i64 x.C.Stripes), T.v (.int .i64 x.C.Wait), T.v (.int .i64 x.C.Budget), T.v (.int .i64 x.C.Cache), T.v (.int .i64 x.C.Queue), T.v (.int .i64 x.C.Rate), T.v (.int .i64 x.C.Burst), T.v (.int .i64 x.C.Rule.Kind), T.v (.int .i64 x.C.Rule.N), T.v (.string x.C.Rule.Key), T.v (.string x.C.Rule.Text), T.s false 5 (frzLL (List.map (Pol.cells o) x.C.Rule.L)), T.v (.bool x.Shut), T.s false 4 (frzLL (List.map (Trail.cells o) x.Open)), T.s false 3 (frzLL (List.map Verdict.cells x.Cache)), T.v (.int .i64 x.B.Rate), T.v (.int .i64 x.B.Burst), T.v (.int .i64 x.B.Tokens), T.v (.int .i64 x.B.At), T.v (.int .i64 x.Used)] = _
  rw [frzMap (f := (Pol.cells o)) (g := (Pol.cells false)) frz_Pol x.C.Rule.L]
  rw [frzMap (f := (Trail.cells o)) (g := (Trail.cells false)) frz_Trail x.Open]
  rw [frzMap (f := Verdict.cells) (g := Verdict.cells) frz_Verdict x.Cache]
  rfl
theorem sh_Model (x : Model) : (Model.cells false x).map T.sh = Model.cells false x := rfl
theorem fz_Model {o : Bool} (x : Model) : (Model.cells o x).map T.fz = Model.cells false x := by
  show [T.v (.int .i64 x.C.Stripes), T.v (.int .i64 x.C.Wait), T.v (.int .i64 x.C.Budget), T.v (.int .i64 x.C.Cache), T.v (.int .i64 x.C.Queue), T.v (.int .i64 x.C.Rate), T.v (.int .i64 x.C.Burst), T.v (.int .i64 x.C.Rule.Kind), T.v (.int .i64 x.C.Rule.N), T.v (.string x.C.Rule.Key), T.v (.string x.C.Rule.Text), T.s false 5 (frzLL (List.map (Pol.cells o) x.C.Rule.L)), T.v (.bool x.Shut), T.s false 4 (frzLL (List.map (Trail.cells o) x.Open)), T.s false 3 (frzLL (List.map Verdict.cells x.Cache)), T.v (.int .i64 x.B.Rate), T.v (.int .i64 x.B.Burst), T.v (.int .i64 x.B.Tokens), T.v (.int .i64 x.B.At), T.v (.int .i64 x.Used)] = _
  rw [frzMap (f := (Pol.cells o)) (g := (Pol.cells false)) frz_Pol x.C.Rule.L]
  rw [frzMap (f := (Trail.cells o)) (g := (Trail.cells false)) frz_Trail x.Open]
  rw [frzMap (f := Verdict.cells) (g := Verdict.cells) frz_Verdict x.Cache]
  rfl
def Model.bd (M : Nat) (x : Model) : Prop := Conf.bd M x.C ∧ bdS Trail.bd M x.Open ∧ bdS Verdict.bd M x.Cache
def Model.rg (x : Model) : Prop := I64 x.C.Stripes ∧ I64 x.C.Wait ∧ I64 x.C.Budget ∧ I64 x.C.Cache ∧ I64 x.C.Queue ∧ I64 x.C.Rate ∧ I64 x.C.Burst ∧ I64 x.C.Rule.Kind ∧ I64 x.C.Rule.N ∧ (x.C.Rule.Key).size ≤ 9223372036854775807 ∧ (x.C.Rule.Text).size ≤ 9223372036854775807 ∧ ((x.C.Rule.L).length ≤ 9223372036854775807 ∧ ∀ y ∈ x.C.Rule.L, True) ∧ True ∧ ((x.Open).length ≤ 9223372036854775807 ∧ ∀ y ∈ x.Open, Trail.rg y) ∧ ((x.Cache).length ≤ 9223372036854775807 ∧ ∀ y ∈ x.Cache, Verdict.rg y) ∧ I64 x.B.Rate ∧ I64 x.B.Burst ∧ I64 x.B.Tokens ∧ I64 x.B.At ∧ I64 x.Used ∧ True
theorem rg_Model {o : Bool} {x : Model} (h : fitL (Model.cells o x)) : Model.rg x := ⟨(range_of_fit h.1), (range_of_fit h.2.1), (range_of_fit h.2.2.1), (range_of_fit h.2.2.2.1), (range_of_fit h.2.2.2.2.1), (range_of_fit h.2.2.2.2.2.1), (range_of_fit h.2.2.2.2.2.2.1), (range_of_fit h.2.2.2.2.2.2.2.1), (range_of_fit h.2.2.2.2.2.2.2.2.1), (Nat.le_of_ble_eq_true h.2.2.2.2.2.2.2.2.2.1), (Nat.le_of_ble_eq_true h.2.2.2.2.2.2.2.2.2.2.1), ⟨by simpa using h.2.2.2.2.2.2.2.2.2.2.2.1.1, fun y0 hy0 => trivial⟩, trivial, ⟨by simpa using h.2.2.2.2.2.2.2.2.2.2.2.2.2.1.1, fun y0 hy0 => (rg_Trail (fitLL_map h.2.2.2.2.2.2.2.2.2.2.2.2.2.1.2 y0 hy0))⟩, ⟨by simpa using h.2.2.2.2.2.2.2.2.2.2.2.2.2.2.1.1, fun y0 hy0 => (rg_Verdict (fitLL_map h.2.2.2.2.2.2.2.2.2.2.2.2.2.2.1.2 y0 hy0))⟩, (range_of_fit h.2.2.2.2.2.2.2.2.2.2.2.2.2.2.2.1), (range_of_fit h.2.2.2.2.2.2.2.2.2.2.2.2.2.2.2.2.1), (range_of_fit h.2.2.2.2.2.2.2.2.2.2.2.2.2.2.2.2.2.1), (range_of_fit h.2.2.2.2.2.2.2.2.2.2.2.2.2.2.2.2.2.2.1), (range_of_fit h.2.2.2.2.2.2.2.2.2.2.2.2.2.2.2.2.2.2.2.1), trivial⟩
theorem Model.rg.C {x : Model} (h : Model.rg x) : Conf.rg x.C := ⟨h.1, h.2.1, h.2.2.1, h.2.2.2.1, h.2.2.2.2.1, h.2.2.2.2.2.1, h.2.2.2.2.2.2.1, h.2.2.2.2.2.2.2.1, h.2.2.2.2.2.2.2.2.1, h.2.2.2.2.2.2.2.2.2.1, h.2.2.2.2.2.2.2.2.2.2.1, h.2.2.2.2.2.2.2.2.2.2.2.1, trivial⟩
theorem Model.rg.Open {x : Model} (h : Model.rg x) : ((x.Open).length ≤ 9223372036854775807 ∧ ∀ y ∈ x.Open, Trail.rg y) := h.2.2.2.2.2.2.2.2.2.2.2.2.2.1
theorem Model.rg.Cache {x : Model} (h : Model.rg x) : ((x.Cache).length ≤ 9223372036854775807 ∧ ∀ y ∈ x.Cache, Verdict.rg y) := h.2.2.2.2.2.2.2.2.2.2.2.2.2.2.1
theorem Model.rg.B {x : Model} (h : Model.rg x) : Bucket.rg x.B := ⟨h.2.2.2.2.2.2.2.2.2.2.2.2.2.2.2.1, h.2.2.2.2.2.2.2.2.2.2.2.2.2.2.2.2.1, h.2.2.2.2.2.2.2.2.2.2.2.2.2.2.2.2.2.1, h.2.2.2.2.2.2.2.2.2.2.2.2.2.2.2.2.2.2.1, trivial⟩
theorem Model.rg.Used {x : Model} (h : Model.rg x) : I64 x.Used := h.2.2.2.2.2.2.2.2.2.2.2.2.2.2.2.2.2.2.2.1
theorem Pol.dep_L (x : Pol) : Pol.dep x = Pol.depL x.L + 1 := by cases x; rfl
theorem wrapD (n : Int) : IntKind.i64.wrap n = if 9223372036854775808 ≤ n % 18446744073709551616 then n % 18446744073709551616 - 18446744073709551616 else n % 18446744073709551616 := by
  simp [IntKind.wrap, IntKind.bits, IntKind.signed]
theorem wrap_wrap_add (a b : Int) : IntKind.i64.wrap (IntKind.i64.wrap a + b) = IntKind.i64.wrap (a + b) := by
  rw [wrapD, wrapD, wrapD]
  split <;> split <;> split <;> omega
theorem wrap_add_wrap (a b : Int) : IntKind.i64.wrap (a + IntKind.i64.wrap b) = IntKind.i64.wrap (a + b) := by
  rw [Int.add_comm, wrap_wrap_add, Int.add_comm]
theorem wrap_idem (a : Int) : IntKind.i64.wrap (IntKind.i64.wrap a) = IntKind.i64.wrap a := by
  have := wrap_wrap_add a 0
  simpa using this
def isum {α : Type} (f : α → Int) : List α → Int
  | [] => 0
  | a :: l => f a + isum f l
theorem isum_append {α : Type} (f : α → Int) : ∀ (l m : List α), isum f (l ++ m) = isum f l + isum f m
  | [], m => by simp [isum]
  | a :: l, m => by simp only [List.cons_append, isum, isum_append f l m]; omega
theorem isum_flat {α β : Type} (f : β → Int) (g : α → List β) : ∀ l : List α, isum f (l.flatMap g) = isum (fun a => isum f (g a)) l
  | [] => rfl
  | a :: l => by rw [List.flatMap_cons, isum_append, isum, isum_flat f g l]
theorem sum_loop {α ρ : Type} {f : α → Int} {b : Nat → Int → α → Step Int ρ} : ∀ (l : List α) (i : Nat) (s : Int), IntKind.i64.wrap s = s → (∀ i s, ∀ a ∈ l, IntKind.i64.wrap s = s → b i s a = .next (IntKind.i64.wrap (s + f a))) → loopL b i s l = .fin (IntKind.i64.wrap (s + isum f l))
  | [], i, s, hs, hb => by simp [loopL, isum, hs]
  | a :: l, i, s, hs, hb => by
    unfold loopL
    rw [hb i s a (by simp) hs]
    simp only
    rw [sum_loop l (i + 1) _ (wrap_idem _) (fun i s x hx => hb i s x (by simp [hx])), wrap_wrap_add, isum, Int.add_assoc]
theorem app_loop {α β ρ : Type} {f : α → List β} {b : Nat → List β → α → Step (List β) ρ} (hb : ∀ i s a, b i s a = .next (s ++ f a)) : ∀ (l : List α) (i : Nat) (s : List β), loopL b i s l = .fin (s ++ l.flatMap f)
  | [], i, s => by simp [loopL]
  | a :: l, i, s => by
    unfold loopL
    rw [hb]
    simp only
    rw [app_loop hb l (i + 1), List.flatMap_cons, List.append_assoc]
theorem wrap_len {n : Nat} (h : n ≤ 9223372036854775807) : IntKind.i64.wrap ((n : Nat) : Int) = ((n : Nat) : Int) := Go.Ev.wrap_small (by omega) (by omega)
def ntInv (s : ByteArray × Int) : Prop := (s.1.size = 0 ∧ s.2.natAbs ≤ 9223372036854775808) ∨ s.1.size + s.2.natAbs ≤ 4611686018427387904
def ntM (s : ByteArray × Int) : Nat := s.2.natAbs
theorem size_str1 (c : Int) : (strOfNums [c]).size = 1 := rfl
theorem nt_abs {x : Int} (h : x.natAbs ≤ 9223372036854775808) : (IntKind.i64.wrap (x.tdiv 10)).natAbs = x.natAbs / 10 := by
  have e : (x.tdiv 10).natAbs = x.natAbs / 10 := by rw [Int.natAbs_tdiv]; rfl
  generalize x.tdiv 10 = q at e ⊢
  have hq : q.natAbs ≤ 922337203685477580 := by omega
  have hq1 : -9223372036854775808 ≤ q := by clear e; omega
  have hq2 : q ≤ 9223372036854775807 := by clear e; omega
  rw [Go.Ev.wrap_small hq1 hq2, e]
theorem nt_step {s : ByteArray} {x c : Int} (h : ntInv (s, x)) (hx : x ≠ 0) : ntInv (strOfNums [c] ++ s, IntKind.i64.wrap (x.tdiv 10)) ∧ ntM (strOfNums [c] ++ s, IntKind.i64.wrap (x.tdiv 10)) < ntM (s, x) := by
  unfold ntInv ntM at *
  simp only at h ⊢
  rw [nt_abs (by omega), ByteArray.size_append, size_str1]
  omega
theorem nt_cat {s : ByteArray} {x c : Int} (h : ntInv (s, x)) (hx : (x != 0) = true) : (((strOfNums [c]).size + s.size : Nat) : Int) ≤ 9223372036854775807 := by
  unfold ntInv at h
  simp only [bne_iff_ne] at h hx
  rw [size_str1]
  omega
theorem nt_cat2 {s : ByteArray} {x : Int} {b : UInt8} (h : ntInv (s, x)) : (((ByteArray.mk #[b]).size + s.size : Nat) : Int) ≤ 9223372036854775807 := by
  unfold ntInv at h
  simp only at h
  have : (ByteArray.mk #[b]).size = 1 := rfl
  omega
def mtInv (s : Int × ByteArray) : Prop := ntInv (s.2, s.1)
def mtM (s : Int × ByteArray) : Nat := ntM (s.2, s.1)
theorem mt_ne {x : Int} (h : decide (x > 0) = true) : x ≠ 0 := by have : x > 0 := by simpa using h
                                                                  omega
theorem mt_step {s : Int × ByteArray} {c : Int} (h : mtInv s) (hx : decide (s.1 > 0) = true) : mtInv (IntKind.i64.wrap (s.1.tdiv 10), strOfNums [c] ++ s.2) ∧ mtM (IntKind.i64.wrap (s.1.tdiv 10), strOfNums [c] ++ s.2) < mtM s := nt_step h (mt_ne hx)
theorem mt_cat {s : Int × ByteArray} {c : Int} (h : mtInv s) (hx : decide (s.1 > 0) = true) : (((strOfNums [c]).size + s.2.size : Nat) : Int) ≤ 9223372036854775807 := nt_cat h (by simpa using mt_ne hx)
theorem mt_cat2 {s : Int × ByteArray} {b : UInt8} (h : mtInv s) : (((ByteArray.mk #[b]).size + s.2.size : Nat) : Int) ≤ 9223372036854775807 := nt_cat2 h
def laws_markText_b1 (s1 : Int × ByteArray) : Step (Int × ByteArray) ByteArray :=
  (bif (decide (s1.1 > 0)) then (.next ((IntKind.i64.wrap (Int.tdiv s1.1 10)), ((strOfNums [(IntKind.u8.wrap (IntKind.i64.wrap (48 + (Int.tmod s1.1 10))))]) ++ s1.2))) else (.stop (s1.1, s1.2)))
def laws_markText (p0 : Int) : ByteArray :=
  (bif (decide (p0 ≤ 0)) then (ByteArray.mk #[109, 48]) else (Fin.get (fun s1 => ((ByteArray.mk #[109]) ++ s1.2)) (loopW laws_markText_b1 (mtM (p0, (ByteArray.mk #[]))) (p0, (ByteArray.mk #[])))))
theorem cr_laws_markText (p0 : Int) (hr0 : I64 p0) : FnOk prog 104 [.one (.v (.int .i64 p0))] ⟨.one (.v (.string (laws_markText p0))), [], [], false⟩ := by
  refine FnOk.intro (E := env) envOk wide func104 rfl (by kernel_rfl) rfl rfl ?_
  have hg := laws_markText.eq_1 p0
  have hown : ∀ g : ByteArray, AV.Own (AV.one (.v (.string g))) := fun g => .v _
  refine seqE ?_
  refine seqE ?_
  refine seqE ?_
  refine brD hg (fun hg h1 => ?_) (fun hg h1 => ?_)
  · refine seqE ?_
    exact leafE hown hg
  · refine seqE ?_
    refine seqE ?_
    refine loopWE (m := mtM) (s0 := (p0, (ByteArray.mk #[]))) mtInv hg (by left; have := hr0.1; have := hr0.2; exact ⟨rfl, by show Int.natAbs p0 ≤ _; omega⟩) [] (fun x1 => [(0, .one (.v (.int .i64 x1.s.1))), (3, .one (.v (.string x1.s.2)))]) (fun x1 => []) [] ?_ (fun x1 => ?_)
    · exact ⟨rfl, ⟨rfl, rfl, trivial⟩, trivial, trivial⟩
    have hI1 := x1.hI
    try dsimp only at hI1
    have hb1 := x1.bdy.trans (laws_markText_b1.eq_1 ..)
    refine seqE ?_
    refine seqE ?_
    refine brD hb1 (fun hb1 h2 => ?_) (fun hb1 h2 => ?_)
    · refine seqE ?_
      refine andE (by (first | omega | (simp (disch := omega) only [wrap_small, mid_eq, List.length_map]; omega) | (simp; done) | (simp; omega) | (simp at *; omega) | (simp at *; done) | (simp_all; done) | (simp_all; omega))) ?_
      refine litE (m := 0) rfl ?_
      refine andE (by first | exact mt_cat x1.hI (by assumption) | exact mt_cat2 x1.hI) ?_
      refine andE (by (first | omega | (simp (disch := omega) only [wrap_small, mid_eq, List.length_map]; omega) | (simp; done) | (simp; omega) | (simp at *; omega) | (simp at *; done) | (simp_all; done) | (simp_all; omega))) ?_
      exact x1.goE hb1 (show mtInv ((IntKind.i64.wrap (Int.tdiv x1.s.1 10)), ((strOfNums [(IntKind.u8.wrap (IntKind.i64.wrap (48 + (Int.tmod x1.s.1 10))))]) ++ x1.s.2)) ∧ mtM ((IntKind.i64.wrap (Int.tdiv x1.s.1 10)), ((strOfNums [(IntKind.u8.wrap (IntKind.i64.wrap (48 + (Int.tmod x1.s.1 10))))]) ++ x1.s.2)) < mtM x1.s by exact mt_step x1.hI (by first | assumption | (simpa using h3) | (simpa using h2))) [] ⟨rfl, ⟨rfl, rfl, trivial⟩, trivial, trivial⟩
    · have hg := finE hg (x1.outS hb1)
      refine seqE ?_
      refine andE (by first | exact mt_cat x1.hI (by assumption) | exact mt_cat2 x1.hI) ?_
      exact leafE hown hg
theorem c_laws_markText (p0 : Int) : FnOk prog 104 [.one (.v (.int .i64 p0))] ⟨.one (.v (.string (laws_markText p0))), [], [], false⟩ :=
  FnOk.fits ⟨_, func104, by kernel_rfl, by kernel_rfl⟩ (fun hf => cr_laws_markText p0 (range_of_fit hf.1))
def laws_szPolS_b1 (r0 : (Pol → Int → Int)) (i1 : Nat) (s1 : Int) (a1 : Pol) : Step (Int) Int :=
  (bif (decide ((r0 a1 s1) < 0)) then (.done (-1)) else (.next (r0 a1 s1)))
def laws_szPolS (r0 : Pol → Int → Int) (p0 : (List Pol)) (p1 : Int) : Int :=
  (bif (decide ((IntKind.i64.wrap (p1 - (((p0).length : Nat) : Int))) < 0)) then (-1) else (Fin.get (fun s1 => s1) (loopL (laws_szPolS_b1 r0) 0 (IntKind.i64.wrap (p1 - (((p0).length : Nat) : Int))) p0)))
theorem c_laws_szPolS (r0 : Pol → Int → Int) (p0 : (List Pol)) (p1 : Int) (m0 : Nat) (hrec0 : ∀ (z0 : Pol) (z1 : Int), Pol.dep z0 < m0 → FnOk prog 46 [.agg (Pol.opn false z0), .one (.v (.int .i64 z1))] ⟨.one (.v (.int .i64 (r0 z0 z1))), [], [], false⟩) (hm0 : ∀ x ∈ p0, Pol.dep x < m0) : FnOk prog 105 [.one (.s false 5 (List.map (Pol.cells false) p0)), .one (.v (.int .i64 p1))] ⟨.one (.v (.int .i64 (laws_szPolS r0 p0 p1))), [], [], false⟩ := by
  refine FnOk.intro (E := env) envOk wide func105 rfl (by kernel_rfl) rfl rfl ?_
  have hg := laws_szPolS.eq_1 r0 p0 p1
  have hown : ∀ g : Int, AV.Own (AV.one (.v (.int .i64 g))) := fun g => .v _
  refine seqE ?_
  refine seqE ?_
  refine lenM fun hN1 => ?_
  refine seqE ?_
  refine seqE ?_
  refine brD hg (fun hg h2 => ?_) (fun hg h2 => ?_)
  · refine seqE ?_
    exact leafE hown hg
  · refine seqE ?_
    refine seqE ?_
    refine loopLE hg [0] (fun x1 => [(1, .one (.v (.int .i64 x1.s))), (5, .one (.v (.int .i64 ((x1.i : Nat) : Int))))]) (fun x1 => []) [] ?_ (fun x1 => ?_)
    · exact ⟨rfl, ⟨rfl, rfl, rfl, trivial⟩, trivial, trivial⟩
    refine seqE ?_
    refine seqE ?_
    refine lenM fun hN3 => ?_
    refine tstL (fun hi1 => ?_) (fun hi1 => ?_)
    · have hb1 := (x1.bdy hi1).trans (laws_szPolS_b1.eq_1 ..)
      have hw1 := wrap_succ hi1 (by first | assumption | omega)
      refine seqE ?_
      refine seqE ?_
      refine idxAtR (Pol.cells_eq false) hi1 ?_
      refine .inl (⟨_, _, hrec0 (p0[x1.i]'hi1) x1.s (by first | exact hm0 _ (List.getElem_mem _) | exact hm0 _ (List.mem_of_getElem? (by assumption)) | exact Nat.lt_of_lt_of_le (Pol.dep_lt (List.getElem_mem _)) (Nat.le_of_lt_succ hd0) | exact Nat.lt_of_lt_of_le (Pol.dep_lt (List.mem_of_getElem? (by assumption))) (Nat.le_of_lt_succ hd0)), (FzAs.same _), ?_⟩)
      refine litE (m := 1) rfl ?_
      refine seqE ?_
      refine brD hb1 (fun hb1 h4 => ?_) (fun hb1 h4 => x1.goE hi1 hb1 [] ⟨rfl, ⟨rfl, (eqInt hw1), rfl, trivial⟩, trivial, trivial⟩)
      refine seqE ?_
      have hg := donE hg (x1.outD hi1 hb1)
      exact leafE hown hg
    have hg := finE hg (x1.fin hi1)
    refine seqE ?_
    exact leafE hown hg
def laws_szPolR : Nat → Pol → Int → Int
  | 0, _, _ => default
  | n + 1, p0, p1 => (bif (decide ((IntKind.i64.wrap (p1 - (((p0.Key).size : Nat) : Int))) < 0)) then (-1) else (bif (decide ((IntKind.i64.wrap ((IntKind.i64.wrap (p1 - (((p0.Key).size : Nat) : Int))) - (((p0.Text).size : Nat) : Int))) < 0)) then (-1) else (bif (decide ((laws_szPolS (laws_szPolR n) p0.L (IntKind.i64.wrap ((IntKind.i64.wrap (p1 - (((p0.Key).size : Nat) : Int))) - (((p0.Text).size : Nat) : Int)))) < 0)) then (-1) else (laws_szPolS (laws_szPolR n) p0.L (IntKind.i64.wrap ((IntKind.i64.wrap (p1 - (((p0.Key).size : Nat) : Int))) - (((p0.Text).size : Nat) : Int)))))))
theorem cR_laws_szPol : ∀ (n : Nat) (p0 : Pol) (p1 : Int), Pol.dep p0 < n → FnOk prog 46 [.agg (Pol.opn false p0), .one (.v (.int .i64 p1))] ⟨.one (.v (.int .i64 (laws_szPolR n p0 p1))), [], [], false⟩ := by
  intro n
  induction n with
  | zero => intro p0 p1 hd0; omega
  | succ n ih =>
    intro p0 p1 hd0
    refine FnOk.intro (E := env) envOk wide func46 rfl (by kernel_rfl) rfl rfl ?_
    have hg : laws_szPolR (n + 1) p0 p1 = _ := laws_szPolR.eq_2 ..
    have hown : ∀ g : Int, AV.Own (AV.one (.v (.int .i64 g))) := fun g => .v _
    refine seqE ?_
    refine litE (m := 0) rfl ?_
    refine seqE ?_
    refine lenS fun hN1 => ?_
    refine seqE ?_
    refine seqE ?_
    refine brD hg (fun hg h2 => ?_) (fun hg h2 => ?_)
    · refine seqE ?_
      exact leafE hown hg
    · refine seqE ?_
      refine lenS fun hN3 => ?_
      refine seqE ?_
      refine seqE ?_
      refine brD hg (fun hg h4 => ?_) (fun hg h4 => ?_)
      · refine seqE ?_
        exact leafE hown hg
      · refine seqE ?_
        refine .inl (⟨_, _, c_laws_szPolS (laws_szPolR n) p0.L (IntKind.i64.wrap ((IntKind.i64.wrap (p1 - (((p0.Key).size : Nat) : Int))) - (((p0.Text).size : Nat) : Int))) n ih (by first | exact hm0 | exact fun x hx => Nat.lt_of_lt_of_le (Pol.dep_lt hx) (Nat.le_of_lt_succ hd0)), (FzAs.same _), ?_⟩)
        refine litE (m := 2) rfl ?_
        refine seqE ?_
        refine seqE ?_
        refine brD hg (fun hg h5 => ?_) (fun hg h5 => ?_)
        · refine seqE ?_
          exact leafE hown hg
        · refine seqE ?_
          exact leafE hown hg
def laws_szPol (p0 : Pol) (p1 : Int) : Int := laws_szPolR (Pol.dep p0 + 1) p0 p1
theorem c_laws_szPol (p0 : Pol) (p1 : Int) : FnOk prog 46 [.agg (Pol.opn false p0), .one (.v (.int .i64 p1))] ⟨.one (.v (.int .i64 (laws_szPol p0 p1))), [], [], false⟩ := cR_laws_szPol _ p0 p1 (Nat.lt_succ_self _)
theorem szdR_laws_szPol : ∀ (n : Nat) (x : Pol), Pol.dep x < n → SzdAt Pol.bd (laws_szPolR n) x := by
  intro n
  induction n with
  | zero => intro x h; omega
  | succ n ih =>
    intro x h left hb h0 h1 h2
    have hS := szS_okM (P := Pol.bd) (f := laws_szPolR n) (b := laws_szPolS_b1 (laws_szPolR n)) (g := laws_szPolS (laws_szPolR n)) (fun _ _ _ => rfl) (fun _ _ => rfl) x.L (fun a ha => ih a (Nat.lt_of_lt_of_le (Pol.dep_lt ha) (Nat.le_of_lt_succ h)))
    have eqn : laws_szPolR (n + 1) x left = _ := rfl
    simp only [laws_szPolR] at h2 ⊢
    clear eqn
    rw [Pol.bd_eq] at hb ⊢
    cases c0 : decide ((IntKind.i64.wrap (left - (((x.Key).size : Nat) : Int))) < 0) with
    | true => simp [c0] at h2
    | false =>
    have p0 : 0 ≤ (IntKind.i64.wrap (left - (((x.Key).size : Nat) : Int))) := by simpa using c0
    have w0 : (IntKind.i64.wrap (left - (((x.Key).size : Nat) : Int))) = left - (((x.Key).size : Nat) : Int) := by have := hb.1; rw [Go.Ev.wrap_small] <;> omega
    have b0 : (x.Key).size ≤ 1048576 := by omega
    have u0 : (IntKind.i64.wrap (left - (((x.Key).size : Nat) : Int))) ≤ left := by omega
    have v0 : (IntKind.i64.wrap (left - (((x.Key).size : Nat) : Int))) ≤ 1048576 := by omega
    cases c1 : decide ((IntKind.i64.wrap ((IntKind.i64.wrap (left - (((x.Key).size : Nat) : Int))) - (((x.Text).size : Nat) : Int))) < 0) with
    | true => simp [c0, c1] at h2
    | false =>
    have p1 : 0 ≤ (IntKind.i64.wrap ((IntKind.i64.wrap (left - (((x.Key).size : Nat) : Int))) - (((x.Text).size : Nat) : Int))) := by simpa using c1
    have w1 : (IntKind.i64.wrap ((IntKind.i64.wrap (left - (((x.Key).size : Nat) : Int))) - (((x.Text).size : Nat) : Int))) = (IntKind.i64.wrap (left - (((x.Key).size : Nat) : Int))) - (((x.Text).size : Nat) : Int) := by have := hb.2.1; rw [Go.Ev.wrap_small] <;> omega
    have b1 : (x.Text).size ≤ 1048576 := by omega
    have u1 : (IntKind.i64.wrap ((IntKind.i64.wrap (left - (((x.Key).size : Nat) : Int))) - (((x.Text).size : Nat) : Int))) ≤ (IntKind.i64.wrap (left - (((x.Key).size : Nat) : Int))) := by omega
    have v1 : (IntKind.i64.wrap ((IntKind.i64.wrap (left - (((x.Key).size : Nat) : Int))) - (((x.Text).size : Nat) : Int))) ≤ 1048576 := by omega
    cases c2 : decide ((laws_szPolS (laws_szPolR n) x.L (IntKind.i64.wrap ((IntKind.i64.wrap (left - (((x.Key).size : Nat) : Int))) - (((x.Text).size : Nat) : Int)))) < 0) with
    | true => simp [c0, c1, c2] at h2
    | false =>
    have p2 : 0 ≤ (laws_szPolS (laws_szPolR n) x.L (IntKind.i64.wrap ((IntKind.i64.wrap (left - (((x.Key).size : Nat) : Int))) - (((x.Text).size : Nat) : Int)))) := by simpa using c2
    have z2 := hS (IntKind.i64.wrap ((IntKind.i64.wrap (left - (((x.Key).size : Nat) : Int))) - (((x.Text).size : Nat) : Int))) hb.2.2 p1 v1 p2
    have b2 := z2.1
    have u2 := z2.2
    have v2 : (laws_szPolS (laws_szPolR n) x.L (IntKind.i64.wrap ((IntKind.i64.wrap (left - (((x.Key).size : Nat) : Int))) - (((x.Text).size : Nat) : Int)))) ≤ 1048576 := by omega
    simp only [c0, c1, c2, cond_false] at h2 ⊢
    exact ⟨⟨b0, b1, b2⟩, by omega⟩
theorem szd_laws_szPol : Szd Pol.bd laws_szPol := fun x left => szdR_laws_szPol _ x (Nat.lt_succ_self _) left
def laws_szConf (p0 : Conf) (p1 : Int) : Int :=
  (bif (decide ((laws_szPol p0.Rule p1) < 0)) then (-1) else (laws_szPol p0.Rule p1))
theorem c_laws_szConf (p0 : Conf) (p1 : Int) : FnOk prog 16 [.agg ((Conf.cells false) p0), .one (.v (.int .i64 p1))] ⟨.one (.v (.int .i64 (laws_szConf p0 p1))), [], [], false⟩ := by
  refine FnOk.intro (E := env) envOk wide func16 rfl (by kernel_rfl) rfl rfl ?_
  have hg := laws_szConf.eq_1 p0 p1
  have hown : ∀ g : Int, AV.Own (AV.one (.v (.int .i64 g))) := fun g => .v _
  refine seqE ?_
  refine litE (m := 0) rfl ?_
  refine seqE ?_
  refine .inl (⟨_, _, c_laws_szPol p0.Rule p1, (FzAs.same _), ?_⟩)
  refine litE (m := 2) rfl ?_
  refine seqE ?_
  refine seqE ?_
  refine brD hg (fun hg h1 => ?_) (fun hg h1 => ?_)
  · refine seqE ?_
    exact leafE hown hg
  · refine seqE ?_
    exact leafE hown hg
theorem szd_laws_szConf : Szd Conf.bd laws_szConf := by
  intro x left hb h0 h1 h2
  unfold laws_szConf at h2 ⊢
  unfold Conf.bd at hb ⊢
  cases c0 : decide ((laws_szPol x.Rule left) < 0) with
  | true => simp [c0] at h2
  | false =>
  have p0 : 0 ≤ (laws_szPol x.Rule left) := by simpa using c0
  have z0 := szd_laws_szPol x.Rule left hb h0 h1 p0
  have b0 := z0.1
  have u0 := z0.2
  have v0 : (laws_szPol x.Rule left) ≤ 1048576 := by omega
  simp only [c0, cond_false] at h2 ⊢
  exact ⟨b0, by omega⟩
def laws_toPolS_b1 (r0 : (Pol → Pol)) (i1 : Nat) (s1 : (List Pol)) (a1 : Pol) : Step ((List Pol)) (List Pol) :=
  (.next (List.set s1 i1 (r0 a1)))
def laws_toPolS (r0 : Pol → Pol) (p0 : (List Pol)) : (List Pol) :=
  (Fin.get (fun s1 => s1) (loopL (laws_toPolS_b1 r0) 0 (List.replicate (p0).length (default : Pol)) p0))
theorem c_laws_toPolS (r0 : Pol → Pol) (p0 : (List Pol)) (m0 : Nat) (hrec0 : ∀ (z0 : Pol), Pol.dep z0 < m0 → Pol.bd 1048576 z0 → FnOk prog 50 [.agg (Pol.opn false z0)] ⟨.agg (Pol.opn true (r0 z0)), [], [], false⟩) (hm0 : ∀ x ∈ p0, Pol.dep x < m0) (hs : bdS Pol.bd 1048576 p0) : FnOk prog 109 [.one (.s false 5 (List.map (Pol.cells false) p0))] ⟨.one (.s true 5 (List.map (Pol.cells true) (laws_toPolS r0 p0))), [], [], false⟩ := by
  refine FnOk.intro (E := env) envOk wide func109 rfl (by kernel_rfl) rfl rfl ?_
  have hs1 := hs.1
  have hg := laws_toPolS.eq_1 r0 p0
  have hown : ∀ g : (List Pol), AV.Own (AV.one (.s true 5 (List.map (Pol.cells true) g))) := fun g => ownSl own_Pol _
  refine seqE ?_
  refine seqE ?_
  refine lenM fun hN1 => ?_
  refine And.intro (by exact ⟨rfl, by omega, by show ((72 : Nat) : Int) * _ ≤ _; omega, by omega⟩) (rowsE (Y := List.map (Pol.cells true) (List.replicate (p0).length (default : Pol))) (by rw [List.map_replicate]; rfl) ?_)
  refine litE (m := 0) rfl ?_
  refine seqE ?_
  refine seqE ?_
  refine loopLI (fun _ s => (s).length = (p0).length) hg (by simp) [0, 3] (fun x1 => [(4, .one (.v (.int .i64 ((x1.i : Nat) : Int))))]) (fun x1 => [.new ⟨5, false, List.map (Pol.cells true) x1.s, 0⟩]) [some 0] ?_ (fun x1 => ?_)
  · exact ⟨rfl, ⟨rfl, rfl, ⟨rfl, rfl, rfl, rfl, by (first | rfl | omega | (dsimp only; omega) | (simp; done) | (simp; omega) | (simp [LstSt.init, LstSt.step, LstInv.init, CntSt.init, CntSt.step, CntInv.init, WhlSt.init, WhlSt.step]; done) | (simp [LstSt.init, LstSt.step, LstInv.init, CntSt.init, CntSt.step, CntInv.init, WhlSt.init, WhlSt.step]; omega))⟩, trivial⟩, ⟨⟨rfl, rfl, rfl⟩, trivial⟩, trivial⟩
  have hI1 : (x1.s).length = (p0).length := by simpa using x1.hI
  refine seqE ?_
  refine seqE ?_
  refine lenM fun hN2 => ?_
  refine tstL (fun hi1 => ?_) (fun hi1 => ?_)
  · have hb1 := (x1.bdy hi1).trans (laws_toPolS_b1.eq_1 ..)
    have hw1 := wrap_succ hi1 (by first | assumption | omega)
    refine seqE ?_
    refine idxAtR (Pol.cells_eq false) hi1 ?_
    refine .inl (⟨_, _, hrec0 (p0[x1.i]'hi1) (by first | exact hm0 _ (List.getElem_mem _) | exact hm0 _ (List.mem_of_getElem? (by assumption)) | exact Nat.lt_of_lt_of_le (Pol.dep_lt (List.getElem_mem _)) (Nat.le_of_lt_succ hd0) | exact Nat.lt_of_lt_of_le (Pol.dep_lt (List.mem_of_getElem? (by assumption))) (Nat.le_of_lt_succ hd0)) (by exact hs.get hi1), (FzAs.same _), ?_⟩)
    refine litE (m := 2) rfl ?_
    refine andE (by (first | omega | (simp (disch := omega) only [wrap_small, mid_eq, List.length_map]; omega) | (simp; done) | (simp; omega) | (simp at *; omega) | (simp at *; done) | (simp_all; done) | (simp_all; omega))) ?_
    refine rowsE (Y := List.map (Pol.cells true) (List.set x1.s x1.i (r0 (p0[x1.i]'hi1)))) (by exact setMapE (by simp) (fun a ha => by first | rfl | (simp only [ha, Option.getD_some]; rfl) | (obtain ⟨_, rfl⟩ := List.getElem?_eq_some_iff.1 ha; rfl) | (simp only [Pol.cells_eq]; rfl) | (simp only [ha, Option.getD_some, Pol.cells_eq]; rfl))) ?_
    exact x1.goE hi1 hb1 (by simpa using x1.hI) [some 0] ⟨rfl, ⟨(eqInt hw1), rfl, ⟨rfl, rfl, rfl, rfl, by (first | rfl | omega | (dsimp only; omega) | (simp; done) | (simp; omega) | (simp [LstSt.init, LstSt.step, LstInv.init, CntSt.init, CntSt.step, CntInv.init, WhlSt.init, WhlSt.step]; done) | (simp [LstSt.init, LstSt.step, LstInv.init, CntSt.init, CntSt.step, CntInv.init, WhlSt.init, WhlSt.step]; omega))⟩, trivial⟩, ⟨⟨rfl, rfl, rfl⟩, trivial⟩, trivial⟩
  have hg := finE hg (x1.fin hi1)
  refine seqE ?_
  exact leafE hown hg
def laws_toPolR : Nat → Pol → Pol
  | 0, _ => default
  | n + 1, p0 => (Pol.mk p0.Kind p0.N p0.Key p0.Text (laws_toPolS (laws_toPolR n) p0.L))
theorem cR_laws_toPol : ∀ (n : Nat) (p0 : Pol), Pol.dep p0 < n → Pol.bd 1048576 p0 → FnOk prog 50 [.agg (Pol.opn false p0)] ⟨.agg (Pol.opn true (laws_toPolR n p0)), [], [], false⟩ := by
  intro n
  induction n with
  | zero => intro p0 hd0; omega
  | succ n ih =>
    intro p0 hd0 hs
    refine FnOk.intro (E := env) envOk wide func50 rfl (by kernel_rfl) rfl rfl ?_
    rw [Pol.bd_eq] at hs
    have hg : laws_toPolR (n + 1) p0 = _ := laws_toPolR.eq_2 ..
    have hown : ∀ g : Pol, AV.Own (AV.agg (Pol.opn true g)) := fun g => ownO_Pol _
    refine seqE ?_
    refine litE (m := 0) rfl ?_
    refine litE (m := 1) rfl ?_
    refine seqE ?_
    refine litE (m := 2) rfl ?_
    refine seqE ?_
    refine seqE ?_
    refine seqE ?_
    refine seqE ?_
    refine seqE ?_
    refine .inl (⟨_, _, c_laws_toPolS (laws_toPolR n) p0.L n ih (by first | exact hm0 | exact fun x hx => Nat.lt_of_lt_of_le (Pol.dep_lt hx) (Nat.le_of_lt_succ hd0)) (by exact hs.2.2), (FzAs.same _), ?_⟩)
    refine litE (m := 4) rfl ?_
    refine seqE ?_
    exact leafE hown hg
def laws_toPol (p0 : Pol) : Pol := laws_toPolR (Pol.dep p0 + 1) p0
theorem c_laws_toPol (p0 : Pol) (hs : Pol.bd 1048576 p0) : FnOk prog 50 [.agg (Pol.opn false p0)] ⟨.agg (Pol.opn true (laws_toPol p0)), [], [], false⟩ := cR_laws_toPol _ p0 (Nat.lt_succ_self _) hs
theorem idR_laws_toPol : ∀ (n : Nat) (x : Pol), Pol.dep x < n → laws_toPolR n x = x := by
  intro n
  induction n with
  | zero => intro x h; omega
  | succ n ih =>
    intro x h
    have e : laws_toPolS (laws_toPolR n) x.L = x.L := setS_okM (b := laws_toPolS_b1 (laws_toPolR n)) x.L (fun a ha => ih a (Nat.lt_of_lt_of_le (Pol.dep_lt ha) (Nat.le_of_lt_succ h))) (fun _ _ _ => rfl) (fun _ => rfl)
    cases x
    simp only [laws_toPolR]
    simp only at e
    rw [e]
theorem id_laws_toPol (x : Pol) : laws_toPol x = x := idR_laws_toPol _ x (Nat.lt_succ_self _)
def laws_toConf (p0 : Conf) : Conf :=
  (Conf.mk p0.Stripes p0.Wait p0.Budget p0.Cache p0.Queue p0.Rate p0.Burst (laws_toPol p0.Rule))
theorem c_laws_toConf (p0 : Conf) (hs : Conf.bd 1048576 p0) : FnOk prog 18 [.agg ((Conf.cells false) p0)] ⟨.agg ((Conf.cells true) (laws_toConf p0)), [], [], false⟩ := by
  refine FnOk.intro (E := env) envOk wide func18 rfl (by kernel_rfl) rfl rfl ?_
  unfold Conf.bd at hs
  have hg := laws_toConf.eq_1 p0
  have hown : ∀ g : Conf, AV.Own (AV.agg ((Conf.cells true) g)) := fun g => own_Conf _
  refine seqE ?_
  refine litE (m := 0) rfl ?_
  refine litE (m := 1) rfl ?_
  refine seqE ?_
  refine litE (m := 2) rfl ?_
  refine seqE ?_
  refine seqE ?_
  refine seqE ?_
  refine seqE ?_
  refine seqE ?_
  refine seqE ?_
  refine seqE ?_
  refine seqE ?_
  refine .inl (⟨_, _, c_laws_toPol p0.Rule (by exact hs), (FzAs.same _), ?_⟩)
  refine litE (m := 4) rfl ?_
  refine seqE ?_
  exact leafE hown hg
theorem id_laws_toConf (x : Conf) : laws_toConf x = x := by
  first | rfl | (simp only [laws_toConf, id_laws_toPol]; done) | (simp only [laws_toConf, id_laws_toPol]; rfl)
def spec_l1In (p0 : Int) (p1 : Int) (p2 : Int) : Bool :=
  (bif (decide (p0 ≥ p1)) then (decide (p0 ≤ p2)) else false)
theorem c_spec_l1In (p0 : Int) (p1 : Int) (p2 : Int) : FnOk prog 106 [.one (.v (.int .i64 p0)), .one (.v (.int .i64 p1)), .one (.v (.int .i64 p2))] ⟨.one (.v (.bool (spec_l1In p0 p1 p2))), [], [], false⟩ := by
  refine FnOk.intro (E := env) envOk wide func106 rfl (by kernel_rfl) rfl rfl ?_
  have hg := spec_l1In.eq_1 p0 p1 p2
  have hown : ∀ g : Bool, AV.Own (AV.one (.v (.bool g))) := fun g => .v _
  refine seqE ?_
  refine seqE ?_
  exact brD hg (fun hg h1 => leafE hown hg) (fun hg h1 => leafE hown hg)
def spec_PolCount_b1 (r0 : (Pol → Int)) (i1 : Nat) (s1 : Int) (a1 : Pol) : Step (Int) Int :=
  (.next (IntKind.i64.wrap (s1 + (r0 a1))))
def spec_PolCountR : Nat → Pol → Int
  | 0, _ => default
  | n + 1, p0 => (Fin.get (fun s1 => s1) (loopL (spec_PolCount_b1 (spec_PolCountR n)) 0 1 p0.L))
theorem cR_spec_PolCount : ∀ (n : Nat) (p0 : Pol), Pol.dep p0 < n → FnOk prog 154 [.agg (Pol.opn false p0)] ⟨.one (.v (.int .i64 (spec_PolCountR n p0))), [], [], false⟩ := by
  intro n
  induction n with
  | zero => intro p0 hd0; omega
  | succ n ih =>
    intro p0 hd0
    refine FnOk.intro (E := env) envOk wide func154 rfl (by kernel_rfl) rfl rfl ?_
    have hg : spec_PolCountR (n + 1) p0 = _ := spec_PolCountR.eq_2 ..
    have hown : ∀ g : Int, AV.Own (AV.one (.v (.int .i64 g))) := fun g => .v _
    refine seqE ?_
    refine litE (m := 0) rfl ?_
    refine seqE ?_
    refine seqE ?_
    refine seqE ?_
    refine loopLE hg [1] (fun x1 => [(3, .one (.v (.int .i64 x1.s))), (4, .one (.v (.int .i64 ((x1.i : Nat) : Int))))]) (fun x1 => [.keep 0]) [some 0] ?_ (fun x1 => ?_)
    · exact ⟨rfl, ⟨rfl, rfl, ⟨rfl, rfl, rfl, rfl⟩, trivial⟩, ⟨⟨rfl, rfl, ⟨rfl, rfl, rfl, rfl, rfl, trivial⟩⟩, trivial⟩, trivial⟩
    refine seqE ?_
    refine seqE ?_
    refine lenM fun hN1 => ?_
    refine tstL (fun hi1 => ?_) (fun hi1 => ?_)
    · have hb1 := (x1.bdy hi1).trans (spec_PolCount_b1.eq_1 ..)
      have hw1 := wrap_succ hi1 (by first | assumption | omega)
      refine seqE ?_
      refine idxAtR (Pol.cells_eq false) hi1 ?_
      refine .inl (⟨_, _, ih (p0.L[x1.i]'hi1) (by first | exact hm0 _ (List.getElem_mem _) | exact hm0 _ (List.mem_of_getElem? (by assumption)) | exact Nat.lt_of_lt_of_le (Pol.dep_lt (List.getElem_mem _)) (Nat.le_of_lt_succ hd0) | exact Nat.lt_of_lt_of_le (Pol.dep_lt (List.mem_of_getElem? (by assumption))) (Nat.le_of_lt_succ hd0)), (FzAs.same _), ?_⟩)
      refine litE (m := 2) rfl ?_
      exact x1.goE hi1 hb1 [some 0] ⟨rfl, ⟨rfl, (eqInt hw1), ⟨rfl, rfl, rfl, rfl⟩, trivial⟩, ⟨⟨rfl, rfl, ⟨rfl, rfl, rfl, rfl, rfl, trivial⟩⟩, trivial⟩, trivial⟩
    have hg := finE hg (x1.fin hi1)
    refine seqE ?_
    exact leafE hown hg
def spec_PolCount (p0 : Pol) : Int := spec_PolCountR (Pol.dep p0 + 1) p0
theorem c_spec_PolCount (p0 : Pol) : FnOk prog 154 [.agg (Pol.opn false p0)] ⟨.one (.v (.int .i64 (spec_PolCount p0))), [], [], false⟩ := cR_spec_PolCount _ p0 (Nat.lt_succ_self _)
def spec_NameOk_b1 (p0 : ByteArray) (i1 : Nat) (s1 : Unit) : Step (Unit) Bool :=
  (bif (decide ((((p0).data.getD i1 0).toNat : Int) < 97)) then (.done false) else (bif (decide ((((p0).data.getD i1 0).toNat : Int) > 122)) then (.done false) else (.next ())))
def spec_NameOk (p0 : ByteArray) : Bool :=
  (Fin.get (fun s1 => (spec_l1In (((p0).size : Nat) : Int) 1 8)) (loopC (spec_NameOk_b1 p0) 0 () (p0).size))
theorem c_spec_NameOk (p0 : ByteArray) : FnOk prog 176 [.one (.v (.string p0))] ⟨.one (.v (.bool (spec_NameOk p0))), [], [], false⟩ := by
  refine FnOk.intro (E := env) envOk wide func176 rfl (by kernel_rfl) rfl rfl ?_
  have hg := spec_NameOk.eq_1 p0
  have hown : ∀ g : Bool, AV.Own (AV.one (.v (.bool g))) := fun g => .v _
  refine seqE ?_
  refine seqE ?_
  refine seqE ?_
  refine loopCE hg [0] (fun x1 => [(3, .one (.v (.int .i64 ((x1.i : Nat) : Int))))]) (fun x1 => []) [] ?_ (fun x1 => ?_)
  · exact ⟨rfl, ⟨rfl, rfl, trivial⟩, trivial, trivial⟩
  refine seqE ?_
  refine seqE ?_
  refine lenS fun hN1 => ?_
  refine tstL (fun hi1 => ?_) (fun hi1 => ?_)
  · have hb1 := (x1.bdy hi1).trans (spec_NameOk_b1.eq_1 ..)
    have hw1 := wrap_succ hi1 (by first | assumption | omega)
    refine seqE ?_
    refine seqE ?_
    refine andE (by (first | omega | (simp (disch := omega) only [wrap_small, mid_eq, List.length_map]; omega) | (simp; done) | (simp; omega) | (simp at *; omega) | (simp at *; done) | (simp_all; done) | (simp_all; omega))) ?_
    refine brDF hb1 (fun hb1 h2 => ?_) (fun hb1 h2 => ?_)
    · refine andE (by (first | omega | (simp (disch := omega) only [wrap_small, mid_eq, List.length_map]; omega) | (simp; done) | (simp; omega) | (simp at *; omega) | (simp at *; done) | (simp_all; done) | (simp_all; omega))) ?_
      refine brD hb1 (fun hb1 h3 => ?_) (fun hb1 h3 => x1.goE hi1 hb1 [] ⟨rfl, ⟨(eqInt hw1), rfl, trivial⟩, trivial, trivial⟩)
      refine seqE ?_
      have hg := donE hg (x1.outD hi1 hb1)
      exact leafE hown hg
    · refine seqE ?_
      have hg := donE hg (x1.outD hi1 hb1)
      exact leafE hown hg
  have hg := finE hg (x1.fin hi1)
  refine seqE ?_
  refine lenS fun hN4 => ?_
  refine .inl (⟨_, _, c_spec_l1In (((p0).size : Nat) : Int) 1 8, (FzAs.same _), ?_⟩)
  refine litE (m := 1) rfl ?_
  exact leafE hown hg
def spec_PlainOk_b1 (p0 : ByteArray) (i1 : Nat) (s1 : Unit) : Step (Unit) Bool :=
  (bif (decide ((((p0).data.getD i1 0).toNat : Int) < 32)) then (.done false) else (bif (decide ((((p0).data.getD i1 0).toNat : Int) > 126)) then (.done false) else (bif ((((p0).data.getD i1 0).toNat : Int) == 34) then (.done false) else (.next ()))))
def spec_PlainOk (p0 : ByteArray) : Bool :=
  (Fin.get (fun s1 => (decide ((((p0).size : Nat) : Int) ≤ 20))) (loopC (spec_PlainOk_b1 p0) 0 () (p0).size))
theorem c_spec_PlainOk (p0 : ByteArray) : FnOk prog 177 [.one (.v (.string p0))] ⟨.one (.v (.bool (spec_PlainOk p0))), [], [], false⟩ := by
  refine FnOk.intro (E := env) envOk wide func177 rfl (by kernel_rfl) rfl rfl ?_
  have hg := spec_PlainOk.eq_1 p0
  have hown : ∀ g : Bool, AV.Own (AV.one (.v (.bool g))) := fun g => .v _
  refine seqE ?_
  refine seqE ?_
  refine seqE ?_
  refine loopCE hg [0] (fun x1 => [(3, .one (.v (.int .i64 ((x1.i : Nat) : Int))))]) (fun x1 => []) [] ?_ (fun x1 => ?_)
  · exact ⟨rfl, ⟨rfl, rfl, trivial⟩, trivial, trivial⟩
  refine seqE ?_
  refine seqE ?_
  refine lenS fun hN1 => ?_
  refine tstL (fun hi1 => ?_) (fun hi1 => ?_)
  · have hb1 := (x1.bdy hi1).trans (spec_PlainOk_b1.eq_1 ..)
    have hw1 := wrap_succ hi1 (by first | assumption | omega)
    refine seqE ?_
    refine seqE ?_
    refine andE (by (first | omega | (simp (disch := omega) only [wrap_small, mid_eq, List.length_map]; omega) | (simp; done) | (simp; omega) | (simp at *; omega) | (simp at *; done) | (simp_all; done) | (simp_all; omega))) ?_
    refine brDF hb1 (fun hb1 h2 => ?_) (fun hb1 h2 => ?_)
    · refine andE (by (first | omega | (simp (disch := omega) only [wrap_small, mid_eq, List.length_map]; omega) | (simp; done) | (simp; omega) | (simp at *; omega) | (simp at *; done) | (simp_all; done) | (simp_all; omega))) ?_
      refine brDF hb1 (fun hb1 h3 => ?_) (fun hb1 h3 => ?_)
      · refine andE (by (first | omega | (simp (disch := omega) only [wrap_small, mid_eq, List.length_map]; omega) | (simp; done) | (simp; omega) | (simp at *; omega) | (simp at *; done) | (simp_all; done) | (simp_all; omega))) ?_
        refine brQ hb1 (fun hb1 h4 => ?_) (fun hb1 h4 => x1.goE hi1 hb1 [] ⟨rfl, ⟨(eqInt hw1), rfl, trivial⟩, trivial, trivial⟩)
        refine seqE ?_
        have hg := donE hg (x1.outD hi1 hb1)
        exact leafE hown hg
      · refine seqE ?_
        have hg := donE hg (x1.outD hi1 hb1)
        exact leafE hown hg
    · refine seqE ?_
      have hg := donE hg (x1.outD hi1 hb1)
      exact leafE hown hg
  have hg := finE hg (x1.fin hi1)
  refine seqE ?_
  refine lenS fun hN5 => ?_
  exact leafE hown hg
def spec_l5One_j1 (p0 : Pol) : Step (Bool) Bool :=
  (bif (p0.Kind == 1) then (.next (p0.Kind == 1)) else (bif (p0.Kind == 2) then (.next (p0.Kind == 2)) else (.next (p0.Kind == 6))))
def spec_l5One_j2 (p0 : Pol) : Step (Bool) Bool :=
  (bif (p0.Kind == 7) then (.next (p0.Kind == 7)) else (.next (p0.Kind == 8)))
def spec_l5One (p0 : Pol) : Bool :=
  (Step.get (fun s1 => (bif s1 then (bif (p0.N == 0) then (bif (decide (p0.Key = (ByteArray.mk #[]))) then (bif (decide (p0.Text = (ByteArray.mk #[]))) then ((((p0.L).length : Nat) : Int) == 0) else false) else false) else false) else (bif (p0.Kind == 3) then (bif (spec_l1In p0.N 0 2147483647) then (bif (decide (p0.Key = (ByteArray.mk #[]))) then (bif (decide (p0.Text = (ByteArray.mk #[]))) then ((((p0.L).length : Nat) : Int) == 0) else false) else false) else false) else (bif (p0.Kind == 4) then (bif (p0.N == 0) then (bif (spec_NameOk p0.Key) then (bif (spec_PlainOk p0.Text) then ((((p0.L).length : Nat) : Int) == 0) else false) else false) else false) else (bif (p0.Kind == 5) then (bif (spec_l1In p0.N 0 2147483647) then (bif (spec_NameOk p0.Key) then (bif (decide (p0.Text = (ByteArray.mk #[]))) then ((((p0.L).length : Nat) : Int) == 0) else false) else false) else false) else (Step.get (fun s2 => (bif s2 then (bif (p0.N == 0) then (bif (decide (p0.Key = (ByteArray.mk #[]))) then (bif (decide (p0.Text = (ByteArray.mk #[]))) then (spec_l1In (((p0.L).length : Nat) : Int) 1 4) else false) else false) else false) else (bif (p0.Kind == 9) then (bif (p0.N == 0) then (bif (decide (p0.Key = (ByteArray.mk #[]))) then (bif (decide (p0.Text = (ByteArray.mk #[]))) then ((((p0.L).length : Nat) : Int) == 1) else false) else false) else false) else false))) (spec_l5One_j2 p0))))))) (spec_l5One_j1 p0))
theorem c_spec_l5One (p0 : Pol) : FnOk prog 170 [.agg (Pol.opn false p0)] ⟨.one (.v (.bool (spec_l5One p0))), [], [], false⟩ := by
  refine FnOk.intro (E := env) envOk wide func170 rfl (by kernel_rfl) rfl rfl ?_
  have hg := spec_l5One.eq_1 p0
  have hown : ∀ g : Bool, AV.Own (AV.one (.v (.bool g))) := fun g => .v _
  refine seqE ?_
  refine litE (m := 0) rfl ?_
  refine seqE ?_
  refine seqE ?_
  refine joinE hg [1, 4] (fun x1 => [(5, .one (.v (.bool x1.s)))]) (fun x1 => [.keep 0]) (fun hb1 => ?_) (fun x1 hg => ?_)
  · have hb1 := hb1.trans (spec_l5One_j1.eq_1 ..)
    refine seqE ?_
    refine brQ hb1 (fun hb1 h1 => .inl ⟨⟨_, hb1⟩, [some 0], ⟨rfl, ⟨rfl, ⟨rfl, rfl, rfl, rfl⟩, rfl, trivial⟩, ⟨⟨rfl, rfl, ⟨rfl, rfl, rfl, rfl, rfl, trivial⟩⟩, trivial⟩, trivial⟩⟩) (fun hb1 h1 => ?_)
    refine seqE ?_
    exact brQ hb1 (fun hb1 h2 => .inl ⟨⟨_, hb1⟩, [some 0], ⟨rfl, ⟨rfl, ⟨rfl, rfl, rfl, rfl⟩, rfl, trivial⟩, ⟨⟨rfl, rfl, ⟨rfl, rfl, rfl, rfl, rfl, trivial⟩⟩, trivial⟩, trivial⟩⟩) (fun hb1 h2 => .inl ⟨⟨_, hb1⟩, [some 0], ⟨rfl, ⟨rfl, ⟨rfl, rfl, rfl, rfl⟩, rfl, trivial⟩, ⟨⟨rfl, rfl, ⟨rfl, rfl, rfl, rfl, rfl, trivial⟩⟩, trivial⟩, trivial⟩⟩)
  refine brE hg (fun hg h3 => ?_) (fun hg h3 => ?_)
  · refine seqE ?_
    refine brQ hg (fun hg h4 => ?_) (fun hg h4 => leafE hown hg)
    refine brD hg (fun hg h5 => ?_) (fun hg h5 => leafE hown hg)
    refine brD hg (fun hg h6 => ?_) (fun hg h6 => leafE hown hg)
    refine lenM fun hN7 => ?_
    exact leafE hown hg
  · refine seqE ?_
    refine brQ hg (fun hg h8 => ?_) (fun hg h8 => ?_)
    · refine seqE ?_
      refine .inl (⟨_, _, c_spec_l1In p0.N 0 2147483647, (FzAs.same _), ?_⟩)
      refine litE (m := 2) rfl ?_
      refine brE hg (fun hg h9 => ?_) (fun hg h9 => leafE hown hg)
      refine brD hg (fun hg h10 => ?_) (fun hg h10 => leafE hown hg)
      refine brD hg (fun hg h11 => ?_) (fun hg h11 => leafE hown hg)
      refine lenM fun hN12 => ?_
      exact leafE hown hg
    · refine seqE ?_
      refine brQ hg (fun hg h13 => ?_) (fun hg h13 => ?_)
      · refine seqE ?_
        refine brQ hg (fun hg h14 => ?_) (fun hg h14 => leafE hown hg)
        refine .inl (⟨_, _, c_spec_NameOk p0.Key, (FzAs.same _), ?_⟩)
        refine litE (m := 2) rfl ?_
        refine brE hg (fun hg h15 => ?_) (fun hg h15 => leafE hown hg)
        refine .inl (⟨_, _, c_spec_PlainOk p0.Text, (FzAs.same _), ?_⟩)
        refine litE (m := 3) rfl ?_
        refine brE hg (fun hg h16 => ?_) (fun hg h16 => leafE hown hg)
        refine lenM fun hN17 => ?_
        exact leafE hown hg
      · refine seqE ?_
        refine brQ hg (fun hg h18 => ?_) (fun hg h18 => ?_)
        · refine seqE ?_
          refine .inl (⟨_, _, c_spec_l1In p0.N 0 2147483647, (FzAs.same _), ?_⟩)
          refine litE (m := 2) rfl ?_
          refine brE hg (fun hg h19 => ?_) (fun hg h19 => leafE hown hg)
          refine .inl (⟨_, _, c_spec_NameOk p0.Key, (FzAs.same _), ?_⟩)
          refine litE (m := 3) rfl ?_
          refine brE hg (fun hg h20 => ?_) (fun hg h20 => leafE hown hg)
          refine brD hg (fun hg h21 => ?_) (fun hg h21 => leafE hown hg)
          refine lenM fun hN22 => ?_
          exact leafE hown hg
        · refine joinE hg [1] (fun x2 => [(91, .one (.v (.bool x2.s)))]) (fun x2 => [.keep 0]) (fun hb2 => ?_) (fun x2 hg => ?_)
          · have hb2 := hb2.trans (spec_l5One_j2.eq_1 ..)
            refine seqE ?_
            exact brQ hb2 (fun hb2 h23 => .inl ⟨⟨_, hb2⟩, [some 0], ⟨rfl, ⟨rfl, ⟨rfl, rfl, rfl, rfl⟩, trivial⟩, ⟨⟨rfl, rfl, ⟨rfl, rfl, rfl, rfl, rfl, trivial⟩⟩, trivial⟩, trivial⟩⟩) (fun hb2 h23 => .inl ⟨⟨_, hb2⟩, [some 0], ⟨rfl, ⟨rfl, ⟨rfl, rfl, rfl, rfl⟩, trivial⟩, ⟨⟨rfl, rfl, ⟨rfl, rfl, rfl, rfl, rfl, trivial⟩⟩, trivial⟩, trivial⟩⟩)
          refine brE hg (fun hg h24 => ?_) (fun hg h24 => ?_)
          · refine seqE ?_
            refine brQ hg (fun hg h25 => ?_) (fun hg h25 => leafE hown hg)
            refine brD hg (fun hg h26 => ?_) (fun hg h26 => leafE hown hg)
            refine brD hg (fun hg h27 => ?_) (fun hg h27 => leafE hown hg)
            refine lenM fun hN28 => ?_
            refine .inl (⟨_, _, c_spec_l1In (((p0.L).length : Nat) : Int) 1 4, (FzAs.same _), ?_⟩)
            refine litE (m := 2) rfl ?_
            exact leafE hown hg
          · refine seqE ?_
            refine brQ hg (fun hg h29 => ?_) (fun hg h29 => leafE hown hg)
            refine brQ hg (fun hg h30 => ?_) (fun hg h30 => leafE hown hg)
            refine brD hg (fun hg h31 => ?_) (fun hg h31 => leafE hown hg)
            refine brD hg (fun hg h32 => ?_) (fun hg h32 => leafE hown hg)
            refine lenM fun hN33 => ?_
            exact leafE hown hg
def spec_l5Deep_b1 (r0 : (Pol → Int → Bool)) (p1 : Int) (i1 : Nat) (s1 : Unit) (a1 : Pol) : Step (Unit) Bool :=
  (bif (!(r0 a1 (IntKind.i64.wrap (p1 + 1)))) then (.done false) else (.next ()))
def spec_l5DeepR : Nat → Pol → Int → Bool
  | 0, _, _ => default
  | n + 1, p0, p1 => (bif (decide (p1 > 4)) then false else (bif (!(spec_l5One p0)) then false else (Fin.get (fun s1 => true) (loopL (spec_l5Deep_b1 (spec_l5DeepR n) p1) 0 () p0.L))))
theorem cR_spec_l5Deep : ∀ (n : Nat) (p0 : Pol) (p1 : Int), Pol.dep p0 < n → FnOk prog 155 [.agg (Pol.opn false p0), .one (.v (.int .i64 p1))] ⟨.one (.v (.bool (spec_l5DeepR n p0 p1))), [], [], false⟩ := by
  intro n
  induction n with
  | zero => intro p0 p1 hd0; omega
  | succ n ih =>
    intro p0 p1 hd0
    refine FnOk.intro (E := env) envOk wide func155 rfl (by kernel_rfl) rfl rfl ?_
    have hg : spec_l5DeepR (n + 1) p0 p1 = _ := spec_l5DeepR.eq_2 ..
    have hown : ∀ g : Bool, AV.Own (AV.one (.v (.bool g))) := fun g => .v _
    refine seqE ?_
    refine litE (m := 0) rfl ?_
    refine seqE ?_
    refine seqE ?_
    refine brDF hg (fun hg h1 => ?_) (fun hg h1 => ?_)
    · refine .inl (⟨_, _, c_spec_l5One p0, (FzAs.same _), ?_⟩)
      refine litE (m := 2) rfl ?_
      refine brE hg (fun hg h2 => ?_) (fun hg h2 => ?_)
      · refine seqE ?_
        exact leafE hown hg
      · refine seqE ?_
        refine seqE ?_
        refine loopLE hg [1, 2] (fun x1 => [(5, .one (.v (.int .i64 ((x1.i : Nat) : Int))))]) (fun x1 => [.keep 0, .dead]) [some 0, none] ?_ (fun x1 => ?_)
        · exact ⟨rfl, ⟨rfl, rfl, ⟨rfl, rfl, rfl, rfl⟩, trivial⟩, ⟨⟨rfl, rfl, ⟨rfl, rfl, rfl, rfl, rfl, trivial⟩⟩, trivial⟩, trivial⟩
        refine seqE ?_
        refine seqE ?_
        refine lenM fun hN3 => ?_
        refine tstL (fun hi1 => ?_) (fun hi1 => ?_)
        · have hb1 := (x1.bdy hi1).trans (spec_l5Deep_b1.eq_1 ..)
          have hw1 := wrap_succ hi1 (by first | assumption | omega)
          refine seqE ?_
          refine seqE ?_
          refine idxAtR (Pol.cells_eq false) hi1 ?_
          refine .inl (⟨_, _, ih (p0.L[x1.i]'hi1) (IntKind.i64.wrap (p1 + 1)) (by first | exact hm0 _ (List.getElem_mem _) | exact hm0 _ (List.mem_of_getElem? (by assumption)) | exact Nat.lt_of_lt_of_le (Pol.dep_lt (List.getElem_mem _)) (Nat.le_of_lt_succ hd0) | exact Nat.lt_of_lt_of_le (Pol.dep_lt (List.mem_of_getElem? (by assumption))) (Nat.le_of_lt_succ hd0)), (FzAs.same _), ?_⟩)
          refine litE (m := 3) rfl ?_
          refine brE hb1 (fun hb1 h4 => ?_) (fun hb1 h4 => x1.goE hi1 hb1 [some 0, none] ⟨rfl, ⟨(eqInt hw1), rfl, ⟨rfl, rfl, rfl, rfl⟩, trivial⟩, ⟨⟨rfl, rfl, ⟨rfl, rfl, rfl, rfl, rfl, trivial⟩⟩, trivial⟩, trivial⟩)
          refine seqE ?_
          have hg := donE hg (x1.outD hi1 hb1)
          exact leafE hown hg
        have hg := finE hg (x1.fin hi1)
        refine seqE ?_
        exact leafE hown hg
    · refine seqE ?_
      exact leafE hown hg
def spec_l5Deep (p0 : Pol) (p1 : Int) : Bool := spec_l5DeepR (Pol.dep p0 + 1) p0 p1
theorem c_spec_l5Deep (p0 : Pol) (p1 : Int) : FnOk prog 155 [.agg (Pol.opn false p0), .one (.v (.int .i64 p1))] ⟨.one (.v (.bool (spec_l5Deep p0 p1))), [], [], false⟩ := cR_spec_l5Deep _ p0 p1 (Nat.lt_succ_self _)
def spec_PolOk (p0 : Pol) : Bool :=
  (bif (decide ((spec_PolCount p0) ≤ 12)) then (spec_l5Deep p0 1) else false)
theorem c_spec_PolOk (p0 : Pol) : FnOk prog 107 [.agg (Pol.opn false p0)] ⟨.one (.v (.bool (spec_PolOk p0))), [], [], false⟩ := by
  refine FnOk.intro (E := env) envOk wide func107 rfl (by kernel_rfl) rfl rfl ?_
  have hg := spec_PolOk.eq_1 p0
  have hown : ∀ g : Bool, AV.Own (AV.one (.v (.bool g))) := fun g => .v _
  refine seqE ?_
  refine litE (m := 0) rfl ?_
  refine seqE ?_
  refine .inl (⟨_, _, c_spec_PolCount p0, (FzAs.same _), ?_⟩)
  refine litE (m := 2) rfl ?_
  refine brD hg (fun hg h1 => ?_) (fun hg h1 => leafE hown hg)
  refine .inl (⟨_, _, c_spec_l5Deep p0 1, (FzAs.same _), ?_⟩)
  refine litE (m := 3) rfl ?_
  exact leafE hown hg
def spec_ConfOk (p0 : Conf) : Bool :=
  (bif (spec_l1In p0.Stripes 1 3) then (bif (spec_l1In p0.Wait 1 50) then (bif (spec_l1In p0.Budget 1 190) then (bif (spec_l1In p0.Cache 1 6) then (bif (spec_l1In p0.Queue 1 4) then (bif (spec_l1In p0.Rate 0 99) then (bif (spec_l1In p0.Burst 0 999) then (spec_PolOk p0.Rule) else false) else false) else false) else false) else false) else false) else false)
theorem c_spec_ConfOk (p0 : Conf) : FnOk prog 47 [.agg ((Conf.cells false) p0)] ⟨.one (.v (.bool (spec_ConfOk p0))), [], [], false⟩ := by
  refine FnOk.intro (E := env) envOk wide func47 rfl (by kernel_rfl) rfl rfl ?_
  have hg := spec_ConfOk.eq_1 p0
  have hown : ∀ g : Bool, AV.Own (AV.one (.v (.bool g))) := fun g => .v _
  refine seqE ?_
  refine litE (m := 0) rfl ?_
  refine seqE ?_
  refine .inl (⟨_, _, c_spec_l1In p0.Stripes 1 3, (FzAs.same _), ?_⟩)
  refine litE (m := 2) rfl ?_
  refine brE hg (fun hg h1 => ?_) (fun hg h1 => leafE hown hg)
  refine .inl (⟨_, _, c_spec_l1In p0.Wait 1 50, (FzAs.same _), ?_⟩)
  refine litE (m := 3) rfl ?_
  refine brE hg (fun hg h2 => ?_) (fun hg h2 => leafE hown hg)
  refine .inl (⟨_, _, c_spec_l1In p0.Budget 1 190, (FzAs.same _), ?_⟩)
  refine litE (m := 4) rfl ?_
  refine brE hg (fun hg h3 => ?_) (fun hg h3 => leafE hown hg)
  refine .inl (⟨_, _, c_spec_l1In p0.Cache 1 6, (FzAs.same _), ?_⟩)
  refine litE (m := 5) rfl ?_
  refine brE hg (fun hg h4 => ?_) (fun hg h4 => leafE hown hg)
  refine .inl (⟨_, _, c_spec_l1In p0.Queue 1 4, (FzAs.same _), ?_⟩)
  refine litE (m := 6) rfl ?_
  refine brE hg (fun hg h5 => ?_) (fun hg h5 => leafE hown hg)
  refine .inl (⟨_, _, c_spec_l1In p0.Rate 0 99, (FzAs.same _), ?_⟩)
  refine litE (m := 7) rfl ?_
  refine brE hg (fun hg h6 => ?_) (fun hg h6 => leafE hown hg)
  refine .inl (⟨_, _, c_spec_l1In p0.Burst 0 999, (FzAs.same _), ?_⟩)
  refine litE (m := 8) rfl ?_
  refine brE hg (fun hg h7 => ?_) (fun hg h7 => leafE hown hg)
  refine .inl (⟨_, _, c_spec_PolOk p0.Rule, (FzAs.same _), ?_⟩)
  refine litE (m := 9) rfl ?_
  exact leafE hown hg
def spec_l5Copy_b1 (r0 : (Pol → Pol)) (i1 : Nat) (s1 : (List Pol)) (a1 : Pol) : Step ((List Pol)) Pol :=
  (.next (s1 ++ [(r0 a1)]))
def spec_l5CopyR : Nat → Pol → Pol
  | 0, _ => default
  | n + 1, p0 => (Fin.get (fun s1 => (Pol.mk p0.Kind p0.N p0.Key p0.Text s1)) (loopL (spec_l5Copy_b1 (spec_l5CopyR n)) 0 ([] : List Pol) p0.L))
theorem cR_spec_l5Copy : ∀ (n : Nat) (p0 : Pol), Pol.dep p0 < n → Pol.bd 1048576 p0 → FnOk prog 108 [.agg (Pol.opn false p0)] ⟨.agg (Pol.opn true (spec_l5CopyR n p0)), [], [], false⟩ := by
  intro n
  induction n with
  | zero => intro p0 hd0; omega
  | succ n ih =>
    intro p0 hd0 hs
    refine FnOk.intro (E := env) envOk wide func108 rfl (by kernel_rfl) rfl rfl ?_
    have hg : spec_l5CopyR (n + 1) p0 = _ := spec_l5CopyR.eq_2 ..
    have hown : ∀ g : Pol, AV.Own (AV.agg (Pol.opn true g)) := fun g => ownO_Pol _
    refine seqE ?_
    refine litE (m := 0) rfl ?_
    refine litE (m := 1) rfl ?_
    refine seqE ?_
    refine litE (m := 2) rfl ?_
    refine seqE ?_
    refine litE (m := 3) rfl ?_
    refine seqE ?_
    refine seqE ?_
    refine loopLI (fun (i : Nat) (s : List Pol) => s.length ≤ i) hg (Nat.le_refl _) [1, 2, 3] (fun x1 => [(4, .one (.v (.int .i64 ((x1.i : Nat) : Int))))]) (fun x1 => [.keep 0, .keep 1, .new ⟨5, true, [[.v (.int .i64 p0.Kind), .v (.int .i64 p0.N), .v (.string p0.Key), .v (.string p0.Text), .n 3 [] 1 0 (x1.s).length]], 0⟩, .new ⟨5, false, List.map (Pol.cells true) x1.s, 0⟩]) [some 0, some 1, some 2, some 3] ?_ (fun x1 => ?_)
    · exact ⟨rfl, ⟨rfl, ⟨rfl, rfl, rfl, rfl⟩, ⟨rfl, rfl, rfl, rfl⟩, ⟨rfl, rfl, rfl, rfl⟩, trivial⟩, ⟨⟨rfl, rfl, ⟨rfl, rfl, rfl, rfl, rfl, trivial⟩⟩, ⟨rfl, rfl, ⟨rfl, rfl, rfl, rfl, rfl, trivial⟩⟩, ⟨rfl, rfl, ⟨rfl, rfl, rfl, rfl, ⟨rfl, rfl, rfl, rfl, by (first | rfl | omega | (dsimp only; omega) | (simp; done) | (simp; omega) | (simp [LstSt.init, LstSt.step, LstInv.init, CntSt.init, CntSt.step, CntInv.init, WhlSt.init, WhlSt.step]; done) | (simp [LstSt.init, LstSt.step, LstInv.init, CntSt.init, CntSt.step, CntInv.init, WhlSt.init, WhlSt.step]; omega))⟩, trivial⟩⟩, ⟨rfl, rfl, rfl⟩, trivial⟩, trivial⟩
    have hI1 := x1.hI
    try dsimp only at hI1
    refine seqE ?_
    refine seqE ?_
    refine lenM fun hN1 => ?_
    refine tstL (fun hi1 => ?_) (fun hi1 => ?_)
    · have hb1 := (x1.bdy hi1).trans (spec_l5Copy_b1.eq_1 ..)
      have hw1 := wrap_succ hi1 (by first | assumption | omega)
      refine seqE ?_
      refine seqE ?_
      refine idxAtR (Pol.cells_eq false) hi1 ?_
      refine .inl (⟨_, _, ih (p0.L[x1.i]'hi1) (by first | exact hm0 _ (List.getElem_mem _) | exact hm0 _ (List.mem_of_getElem? (by assumption)) | exact Nat.lt_of_lt_of_le (Pol.dep_lt (List.getElem_mem _)) (Nat.le_of_lt_succ hd0) | exact Nat.lt_of_lt_of_le (Pol.dep_lt (List.mem_of_getElem? (by assumption))) (Nat.le_of_lt_succ hd0)) (by exact (Pol.bd_eq.1 hs).2.2.get hi1), (FzAs.same _), ?_⟩)
      refine litE (m := 5) rfl ?_
      refine litE (m := 6) rfl ?_
      refine litE (m := 7) rfl ?_
      refine .inl ?_
      refine rowsE (Y := List.map (Pol.cells true) (x1.s ++ [((spec_l5CopyR n) (p0.L[x1.i]'hi1))])) (by first | rfl | (simp [subR0, subR1, -List.map_take, -List.map_drop, take_map', drop_map', fz_Pol, fzMap fz_Pol, shMap sh_Pol, Pol.cells_eq]; done) | (simp [subR0, subR1, -List.map_take, -List.map_drop, take_map', drop_map', fz_Pol, fzMap fz_Pol, shMap sh_Pol, Pol.cells_eq]; rfl)) ?_
      refine appB (b := 72) (hs := by have q0 : p0.L.length ≤ 1048576 := (Pol.bd_eq.1 hs).2.2.1; have q1 := hI1; have q2 := hi1; refine ⟨?_, ?_⟩; (show List.length _ * 72 ≤ _); (try simp only [List.length_map, List.length_append, List.length_cons, List.length_nil]); omega; (try simp only [List.length_map, List.length_append, List.length_cons, List.length_nil]); omega) ?_
      refine litE (m := 8) rfl ?_
      exact x1.goE hi1 hb1 (by have q1 := hI1; simp only [List.length_map, List.length_append, List.length_cons, List.length_nil]; omega) [some 0, some 1, some 2, some 8] ⟨rfl, ⟨(eqInt hw1), ⟨rfl, rfl, rfl, rfl⟩, ⟨rfl, rfl, rfl, rfl⟩, ⟨rfl, rfl, rfl, rfl⟩, trivial⟩, ⟨⟨rfl, rfl, ⟨rfl, rfl, rfl, rfl, rfl, trivial⟩⟩, ⟨rfl, rfl, ⟨rfl, rfl, rfl, rfl, rfl, trivial⟩⟩, ⟨rfl, rfl, ⟨rfl, rfl, rfl, rfl, ⟨rfl, rfl, rfl, rfl, by (first | rfl | omega | (dsimp only; omega) | (simp; done) | (simp; omega) | (simp [LstSt.init, LstSt.step, LstInv.init, CntSt.init, CntSt.step, CntInv.init, WhlSt.init, WhlSt.step]; done) | (simp [LstSt.init, LstSt.step, LstInv.init, CntSt.init, CntSt.step, CntInv.init, WhlSt.init, WhlSt.step]; omega))⟩, trivial⟩⟩, ⟨rfl, rfl, rfl⟩, trivial⟩, trivial⟩
    have hg := finE hg (x1.fin hi1)
    refine seqE ?_
    exact leafE hown hg
def spec_l5Copy (p0 : Pol) : Pol := spec_l5CopyR (Pol.dep p0 + 1) p0
theorem c_spec_l5Copy (p0 : Pol) (hs : Pol.bd 1048576 p0) : FnOk prog 108 [.agg (Pol.opn false p0)] ⟨.agg (Pol.opn true (spec_l5Copy p0)), [], [], false⟩ := cR_spec_l5Copy _ p0 (Nat.lt_succ_self _) hs
def spec_l13Copy (p0 : Conf) : Conf :=
  (Conf.mk p0.Stripes p0.Wait p0.Budget p0.Cache p0.Queue p0.Rate p0.Burst (spec_l5Copy p0.Rule))
theorem c_spec_l13Copy (p0 : Conf) (hs : Conf.bd 1048576 p0) : FnOk prog 48 [.agg ((Conf.cells false) p0)] ⟨.agg ((Conf.cells true) (spec_l13Copy p0)), [], [], false⟩ := by
  refine FnOk.intro (E := env) envOk wide func48 rfl (by kernel_rfl) rfl rfl ?_
  have hg := spec_l13Copy.eq_1 p0
  have hown : ∀ g : Conf, AV.Own (AV.agg ((Conf.cells true) g)) := fun g => own_Conf _
  refine seqE ?_
  refine litE (m := 0) rfl ?_
  refine litE (m := 1) rfl ?_
  refine seqE ?_
  refine litE (m := 2) rfl ?_
  refine seqE ?_
  refine .inl (⟨_, _, c_spec_l5Copy p0.Rule (by exact hs), (FzAs.same _), ?_⟩)
  refine litE (m := 4) rfl ?_
  refine litE (m := 5) rfl ?_
  refine seqE ?_
  refine seqE ?_
  exact leafE hown hg
def spec_BucketNew (p0 : Int) (p1 : Int) : Bucket :=
  (Bucket.mk p0 p1 p1 0)
theorem c_spec_BucketNew (p0 : Int) (p1 : Int) : FnOk prog 49 [.one (.v (.int .i64 p0)), .one (.v (.int .i64 p1))] ⟨.agg (Bucket.cells (spec_BucketNew p0 p1)), [], [], false⟩ := by
  refine FnOk.intro (E := env) envOk wide func49 rfl (by kernel_rfl) rfl rfl ?_
  have hg := spec_BucketNew.eq_1 p0 p1
  have hown : ∀ g : Bucket, AV.Own (AV.agg (Bucket.cells g)) := fun g => own_Bucket _
  refine seqE ?_
  refine litE (m := 0) rfl ?_
  refine seqE ?_
  exact leafE hown hg
def spec_ModelNew (p0 : Conf) : Model :=
  (bif (!(spec_ConfOk p0)) then (Model.mk (Conf.mk 0 0 0 0 0 0 0 (Pol.mk 0 0 (ByteArray.mk #[]) (ByteArray.mk #[]) ([] : List Pol))) false ([] : List Trail) ([] : List Verdict) (Bucket.mk 0 0 0 0) 0) else (Model.mk (spec_l13Copy p0) false ([] : List Trail) ([] : List Verdict) (spec_BucketNew p0.Rate p0.Burst) 0))
theorem c_spec_ModelNew (p0 : Conf) (hs : Conf.bd 1048576 p0) : FnOk prog 17 [.agg ((Conf.cells false) p0)] ⟨.agg ((Model.cells true) (spec_ModelNew p0)), [], [], false⟩ := by
  refine FnOk.intro (E := env) envOk wide func17 rfl (by kernel_rfl) rfl rfl ?_
  have hg := spec_ModelNew.eq_1 p0
  have hown : ∀ g : Model, AV.Own (AV.agg ((Model.cells true) g)) := fun g => own_Model _
  refine seqE ?_
  refine litE (m := 0) rfl ?_
  refine litE (m := 1) rfl ?_
  refine seqE ?_
  refine seqE ?_
  refine .inl (⟨_, _, c_spec_ConfOk p0, (FzAs.same _), ?_⟩)
  refine litE (m := 3) rfl ?_
  refine brE hg (fun hg h1 => ?_) (fun hg h1 => ?_)
  · refine seqE ?_
    exact leafE hown hg
  · refine seqE ?_
    refine .inl (⟨_, _, c_spec_l13Copy p0 (by exact hs), (FzAs.same _), ?_⟩)
    refine litE (m := 4) rfl ?_
    refine litE (m := 5) rfl ?_
    refine seqE ?_
    refine .inr (.inl ⟨7, [(0, true), (1, true), (2, true), (3, true), (4, true), (5, false), (6, false)], by kernel_rfl, ?_⟩)
    refine ⟨_, _, c_spec_BucketNew p0.Rate p0.Burst, (FzAs.same _), ?_⟩
    refine litE (m := 7) rfl ?_
    exact leafE hown hg
def impl_within (p0 : Int) (p1 : Int) (p2 : Int) : Bool :=
  (bif (decide (p0 ≥ p1)) then (decide (p0 ≤ p2)) else false)
theorem c_impl_within (p0 : Int) (p1 : Int) (p2 : Int) : FnOk prog 110 [.one (.v (.int .i64 p0)), .one (.v (.int .i64 p1)), .one (.v (.int .i64 p2))] ⟨.one (.v (.bool (impl_within p0 p1 p2))), [], [], false⟩ := by
  refine FnOk.intro (E := env) envOk wide func110 rfl (by kernel_rfl) rfl rfl ?_
  have hg := impl_within.eq_1 p0 p1 p2
  have hown : ∀ g : Bool, AV.Own (AV.one (.v (.bool g))) := fun g => .v _
  refine seqE ?_
  refine seqE ?_
  exact brD hg (fun hg h1 => leafE hown hg) (fun hg h1 => leafE hown hg)
def impl_NameOk_b1 (p0 : ByteArray) (i1 : Nat) (s1 : Unit) : Step (Unit) Bool :=
  (bif (decide ((((p0).data.getD i1 0).toNat : Int) < 97)) then (.done false) else (bif (decide ((((p0).data.getD i1 0).toNat : Int) > 122)) then (.done false) else (.next ())))
def impl_NameOk (p0 : ByteArray) : Bool :=
  (Fin.get (fun s1 => (impl_within (((p0).size : Nat) : Int) 1 8)) (loopC (impl_NameOk_b1 p0) 0 () (p0).size))
theorem c_impl_NameOk (p0 : ByteArray) : FnOk prog 178 [.one (.v (.string p0))] ⟨.one (.v (.bool (impl_NameOk p0))), [], [], false⟩ := by
  refine FnOk.intro (E := env) envOk wide func178 rfl (by kernel_rfl) rfl rfl ?_
  have hg := impl_NameOk.eq_1 p0
  have hown : ∀ g : Bool, AV.Own (AV.one (.v (.bool g))) := fun g => .v _
  refine seqE ?_
  refine seqE ?_
  refine seqE ?_
  refine loopCE hg [0] (fun x1 => [(3, .one (.v (.int .i64 ((x1.i : Nat) : Int))))]) (fun x1 => []) [] ?_ (fun x1 => ?_)
  · exact ⟨rfl, ⟨rfl, rfl, trivial⟩, trivial, trivial⟩
  refine seqE ?_
  refine seqE ?_
  refine lenS fun hN1 => ?_
  refine tstL (fun hi1 => ?_) (fun hi1 => ?_)
  · have hb1 := (x1.bdy hi1).trans (impl_NameOk_b1.eq_1 ..)
    have hw1 := wrap_succ hi1 (by first | assumption | omega)
    refine seqE ?_
    refine seqE ?_
    refine andE (by (first | omega | (simp (disch := omega) only [wrap_small, mid_eq, List.length_map]; omega) | (simp; done) | (simp; omega) | (simp at *; omega) | (simp at *; done) | (simp_all; done) | (simp_all; omega))) ?_
    refine brDF hb1 (fun hb1 h2 => ?_) (fun hb1 h2 => ?_)
    · refine andE (by (first | omega | (simp (disch := omega) only [wrap_small, mid_eq, List.length_map]; omega) | (simp; done) | (simp; omega) | (simp at *; omega) | (simp at *; done) | (simp_all; done) | (simp_all; omega))) ?_
      refine brD hb1 (fun hb1 h3 => ?_) (fun hb1 h3 => x1.goE hi1 hb1 [] ⟨rfl, ⟨(eqInt hw1), rfl, trivial⟩, trivial, trivial⟩)
      refine seqE ?_
      have hg := donE hg (x1.outD hi1 hb1)
      exact leafE hown hg
    · refine seqE ?_
      have hg := donE hg (x1.outD hi1 hb1)
      exact leafE hown hg
  have hg := finE hg (x1.fin hi1)
  refine seqE ?_
  refine lenS fun hN4 => ?_
  refine .inl (⟨_, _, c_impl_within (((p0).size : Nat) : Int) 1 8, (FzAs.same _), ?_⟩)
  refine litE (m := 1) rfl ?_
  exact leafE hown hg
def impl_PlainOk_b1 (p0 : ByteArray) (i1 : Nat) (s1 : Unit) : Step (Unit) Bool :=
  (bif (!(impl_within (IntKind.i64.wrap (((p0).data.getD i1 0).toNat : Int)) 32 126)) then (.done false) else (bif ((((p0).data.getD i1 0).toNat : Int) == 34) then (.done false) else (.next ())))
def impl_PlainOk (p0 : ByteArray) : Bool :=
  (Fin.get (fun s1 => (decide ((((p0).size : Nat) : Int) ≤ 20))) (loopC (impl_PlainOk_b1 p0) 0 () (p0).size))
theorem c_impl_PlainOk (p0 : ByteArray) : FnOk prog 179 [.one (.v (.string p0))] ⟨.one (.v (.bool (impl_PlainOk p0))), [], [], false⟩ := by
  refine FnOk.intro (E := env) envOk wide func179 rfl (by kernel_rfl) rfl rfl ?_
  have hg := impl_PlainOk.eq_1 p0
  have hown : ∀ g : Bool, AV.Own (AV.one (.v (.bool g))) := fun g => .v _
  refine seqE ?_
  refine seqE ?_
  refine seqE ?_
  refine loopCE hg [0] (fun x1 => [(3, .one (.v (.int .i64 ((x1.i : Nat) : Int))))]) (fun x1 => []) [] ?_ (fun x1 => ?_)
  · exact ⟨rfl, ⟨rfl, rfl, trivial⟩, trivial, trivial⟩
  refine seqE ?_
  refine seqE ?_
  refine lenS fun hN1 => ?_
  refine tstL (fun hi1 => ?_) (fun hi1 => ?_)
  · have hb1 := (x1.bdy hi1).trans (impl_PlainOk_b1.eq_1 ..)
    have hw1 := wrap_succ hi1 (by first | assumption | omega)
    refine seqE ?_
    refine seqE ?_
    refine andE (by (first | omega | (simp (disch := omega) only [wrap_small, mid_eq, List.length_map]; omega) | (simp; done) | (simp; omega) | (simp at *; omega) | (simp at *; done) | (simp_all; done) | (simp_all; omega))) ?_
    refine .inl (⟨_, _, c_impl_within (IntKind.i64.wrap (((p0).data.getD x1.i 0).toNat : Int)) 32 126, (FzAs.same _), ?_⟩)
    refine litE (m := 1) rfl ?_
    refine brF hb1 (fun hb1 h2 => ?_) (fun hb1 h2 => ?_)
    · refine andE (by (first | omega | (simp (disch := omega) only [wrap_small, mid_eq, List.length_map]; omega) | (simp; done) | (simp; omega) | (simp at *; omega) | (simp at *; done) | (simp_all; done) | (simp_all; omega))) ?_
      refine brQ hb1 (fun hb1 h3 => ?_) (fun hb1 h3 => x1.goE hi1 hb1 [] ⟨rfl, ⟨(eqInt hw1), rfl, trivial⟩, trivial, trivial⟩)
      refine seqE ?_
      have hg := donE hg (x1.outD hi1 hb1)
      exact leafE hown hg
    · refine seqE ?_
      have hg := donE hg (x1.outD hi1 hb1)
      exact leafE hown hg
  have hg := finE hg (x1.fin hi1)
  refine seqE ?_
  refine lenS fun hN4 => ?_
  exact leafE hown hg
def impl_polHeadOk_j1 (p0 : Pol) : Step (Bool) Bool :=
  (bif (p0.N == 0) then (bif (decide (p0.Key = (ByteArray.mk #[]))) then (.next (decide (p0.Text = (ByteArray.mk #[])))) else (.next false)) else (.next false))
def impl_polHeadOk_j2 (p0 : Pol) : Step (Bool) Bool :=
  (bif (p0.Kind == 1) then (.next (p0.Kind == 1)) else (bif (p0.Kind == 2) then (.next (p0.Kind == 2)) else (.next (p0.Kind == 6))))
def impl_polHeadOk_j3 (p0 : Pol) : Step (Bool) Bool :=
  (bif (p0.Kind == 7) then (.next (p0.Kind == 7)) else (.next (p0.Kind == 8)))
def impl_polHeadOk (p0 : Pol) : Bool :=
  (Step.get (fun s1 => (Step.get (fun s2 => (bif s2 then (bif s1 then ((((p0.L).length : Nat) : Int) == 0) else false) else (bif (p0.Kind == 3) then (bif (impl_within p0.N 0 2147483647) then (bif (decide (p0.Key = (ByteArray.mk #[]))) then (bif (decide (p0.Text = (ByteArray.mk #[]))) then ((((p0.L).length : Nat) : Int) == 0) else false) else false) else false) else (bif (p0.Kind == 4) then (bif (p0.N == 0) then (bif (impl_NameOk p0.Key) then (bif (impl_PlainOk p0.Text) then ((((p0.L).length : Nat) : Int) == 0) else false) else false) else false) else (bif (p0.Kind == 5) then (bif (impl_within p0.N 0 2147483647) then (bif (impl_NameOk p0.Key) then (bif (decide (p0.Text = (ByteArray.mk #[]))) then ((((p0.L).length : Nat) : Int) == 0) else false) else false) else false) else (Step.get (fun s3 => (bif s3 then (bif s1 then (impl_within (((p0.L).length : Nat) : Int) 1 4) else false) else (bif (p0.Kind == 9) then (bif s1 then ((((p0.L).length : Nat) : Int) == 1) else false) else false))) (impl_polHeadOk_j3 p0))))))) (impl_polHeadOk_j2 p0))) (impl_polHeadOk_j1 p0))
theorem c_impl_polHeadOk (p0 : Pol) : FnOk prog 171 [.agg (Pol.opn false p0)] ⟨.one (.v (.bool (impl_polHeadOk p0))), [], [], false⟩ := by
  refine FnOk.intro (E := env) envOk wide func171 rfl (by kernel_rfl) rfl rfl ?_
  have hg := impl_polHeadOk.eq_1 p0
  have hown : ∀ g : Bool, AV.Own (AV.one (.v (.bool g))) := fun g => .v _
  refine seqE ?_
  refine litE (m := 0) rfl ?_
  refine joinE hg [1] (fun x1 => [(3, .one (.v (.bool x1.s)))]) (fun x1 => [.keep 0]) (fun hb1 => ?_) (fun x1 hg => ?_)
  · have hb1 := hb1.trans (impl_polHeadOk_j1.eq_1 ..)
    exact brQ hb1 (fun hb1 h1 => brD hb1 (fun hb1 h2 => .inl ⟨⟨_, hb1⟩, [some 0], ⟨rfl, ⟨rfl, ⟨rfl, rfl, rfl, rfl⟩, trivial⟩, ⟨⟨rfl, rfl, ⟨rfl, rfl, rfl, rfl, rfl, trivial⟩⟩, trivial⟩, trivial⟩⟩) (fun hb1 h2 => .inl ⟨⟨_, hb1⟩, [some 0], ⟨rfl, ⟨rfl, ⟨rfl, rfl, rfl, rfl⟩, trivial⟩, ⟨⟨rfl, rfl, ⟨rfl, rfl, rfl, rfl, rfl, trivial⟩⟩, trivial⟩, trivial⟩⟩)) (fun hb1 h1 => .inl ⟨⟨_, hb1⟩, [some 0], ⟨rfl, ⟨rfl, ⟨rfl, rfl, rfl, rfl⟩, trivial⟩, ⟨⟨rfl, rfl, ⟨rfl, rfl, rfl, rfl, rfl, trivial⟩⟩, trivial⟩, trivial⟩⟩)
  refine seqE ?_
  refine seqE ?_
  refine joinE hg [1, 3, 18] (fun x2 => [(19, .one (.v (.bool x2.s)))]) (fun x2 => [.keep 0]) (fun hb2 => ?_) (fun x2 hg => ?_)
  · have hb2 := hb2.trans (impl_polHeadOk_j2.eq_1 ..)
    refine seqE ?_
    refine brQ hb2 (fun hb2 h3 => .inl ⟨⟨_, hb2⟩, [some 0], ⟨rfl, ⟨rfl, ⟨rfl, rfl, rfl, rfl⟩, rfl, rfl, trivial⟩, ⟨⟨rfl, rfl, ⟨rfl, rfl, rfl, rfl, rfl, trivial⟩⟩, trivial⟩, trivial⟩⟩) (fun hb2 h3 => ?_)
    refine seqE ?_
    exact brQ hb2 (fun hb2 h4 => .inl ⟨⟨_, hb2⟩, [some 0], ⟨rfl, ⟨rfl, ⟨rfl, rfl, rfl, rfl⟩, rfl, rfl, trivial⟩, ⟨⟨rfl, rfl, ⟨rfl, rfl, rfl, rfl, rfl, trivial⟩⟩, trivial⟩, trivial⟩⟩) (fun hb2 h4 => .inl ⟨⟨_, hb2⟩, [some 0], ⟨rfl, ⟨rfl, ⟨rfl, rfl, rfl, rfl⟩, rfl, rfl, trivial⟩, ⟨⟨rfl, rfl, ⟨rfl, rfl, rfl, rfl, rfl, trivial⟩⟩, trivial⟩, trivial⟩⟩)
  refine brE hg (fun hg h5 => ?_) (fun hg h5 => ?_)
  · refine seqE ?_
    refine brE hg (fun hg h6 => ?_) (fun hg h6 => leafE hown hg)
    refine lenM fun hN7 => ?_
    exact leafE hown hg
  · refine seqE ?_
    refine brQ hg (fun hg h8 => ?_) (fun hg h8 => ?_)
    · refine seqE ?_
      refine .inl (⟨_, _, c_impl_within p0.N 0 2147483647, (FzAs.same _), ?_⟩)
      refine litE (m := 2) rfl ?_
      refine brE hg (fun hg h9 => ?_) (fun hg h9 => leafE hown hg)
      refine brD hg (fun hg h10 => ?_) (fun hg h10 => leafE hown hg)
      refine brD hg (fun hg h11 => ?_) (fun hg h11 => leafE hown hg)
      refine lenM fun hN12 => ?_
      exact leafE hown hg
    · refine seqE ?_
      refine brQ hg (fun hg h13 => ?_) (fun hg h13 => ?_)
      · refine seqE ?_
        refine brQ hg (fun hg h14 => ?_) (fun hg h14 => leafE hown hg)
        refine .inl (⟨_, _, c_impl_NameOk p0.Key, (FzAs.same _), ?_⟩)
        refine litE (m := 2) rfl ?_
        refine brE hg (fun hg h15 => ?_) (fun hg h15 => leafE hown hg)
        refine .inl (⟨_, _, c_impl_PlainOk p0.Text, (FzAs.same _), ?_⟩)
        refine litE (m := 3) rfl ?_
        refine brE hg (fun hg h16 => ?_) (fun hg h16 => leafE hown hg)
        refine lenM fun hN17 => ?_
        exact leafE hown hg
      · refine seqE ?_
        refine brQ hg (fun hg h18 => ?_) (fun hg h18 => ?_)
        · refine seqE ?_
          refine .inl (⟨_, _, c_impl_within p0.N 0 2147483647, (FzAs.same _), ?_⟩)
          refine litE (m := 2) rfl ?_
          refine brE hg (fun hg h19 => ?_) (fun hg h19 => leafE hown hg)
          refine .inl (⟨_, _, c_impl_NameOk p0.Key, (FzAs.same _), ?_⟩)
          refine litE (m := 3) rfl ?_
          refine brE hg (fun hg h20 => ?_) (fun hg h20 => leafE hown hg)
          refine brD hg (fun hg h21 => ?_) (fun hg h21 => leafE hown hg)
          refine lenM fun hN22 => ?_
          exact leafE hown hg
        · refine joinE hg [1, 3, 18] (fun x3 => [(93, .one (.v (.bool x3.s)))]) (fun x3 => [.keep 0]) (fun hb3 => ?_) (fun x3 hg => ?_)
          · have hb3 := hb3.trans (impl_polHeadOk_j3.eq_1 ..)
            refine seqE ?_
            exact brQ hb3 (fun hb3 h23 => .inl ⟨⟨_, hb3⟩, [some 0], ⟨rfl, ⟨rfl, ⟨rfl, rfl, rfl, rfl⟩, rfl, rfl, trivial⟩, ⟨⟨rfl, rfl, ⟨rfl, rfl, rfl, rfl, rfl, trivial⟩⟩, trivial⟩, trivial⟩⟩) (fun hb3 h23 => .inl ⟨⟨_, hb3⟩, [some 0], ⟨rfl, ⟨rfl, ⟨rfl, rfl, rfl, rfl⟩, rfl, rfl, trivial⟩, ⟨⟨rfl, rfl, ⟨rfl, rfl, rfl, rfl, rfl, trivial⟩⟩, trivial⟩, trivial⟩⟩)
          refine brE hg (fun hg h24 => ?_) (fun hg h24 => ?_)
          · refine seqE ?_
            refine brE hg (fun hg h25 => ?_) (fun hg h25 => leafE hown hg)
            refine lenM fun hN26 => ?_
            refine .inl (⟨_, _, c_impl_within (((p0.L).length : Nat) : Int) 1 4, (FzAs.same _), ?_⟩)
            refine litE (m := 2) rfl ?_
            exact leafE hown hg
          · refine seqE ?_
            refine brQ hg (fun hg h27 => ?_) (fun hg h27 => ?_)
            · refine seqE ?_
              refine brE hg (fun hg h28 => ?_) (fun hg h28 => leafE hown hg)
              refine lenM fun hN29 => ?_
              exact leafE hown hg
            · refine seqE ?_
              exact leafE hown hg
def impl_polParts_b1 (r0 : (Pol → Int → Int)) (p1 : Int) (i1 : Nat) (s1 : Int) (a1 : Pol) : Step (Int) Int :=
  (bif (decide ((IntKind.i64.wrap (s1 + (r0 a1 (IntKind.i64.wrap (p1 + 1))))) ≥ 13)) then (.done 13) else (.next (IntKind.i64.wrap (s1 + (r0 a1 (IntKind.i64.wrap (p1 + 1)))))))
def impl_polPartsR : Nat → Pol → Int → Int
  | 0, _, _ => default
  | n + 1, p0, p1 => (bif (decide (p1 > 4)) then 13 else (bif (!(impl_polHeadOk p0)) then 13 else (Fin.get (fun s1 => s1) (loopL (impl_polParts_b1 (impl_polPartsR n) p1) 0 1 p0.L))))
theorem cR_impl_polParts : ∀ (n : Nat) (p0 : Pol) (p1 : Int), Pol.dep p0 < n → FnOk prog 156 [.agg (Pol.opn false p0), .one (.v (.int .i64 p1))] ⟨.one (.v (.int .i64 (impl_polPartsR n p0 p1))), [], [], false⟩ := by
  intro n
  induction n with
  | zero => intro p0 p1 hd0; omega
  | succ n ih =>
    intro p0 p1 hd0
    refine FnOk.intro (E := env) envOk wide func156 rfl (by kernel_rfl) rfl rfl ?_
    have hg : impl_polPartsR (n + 1) p0 p1 = _ := impl_polPartsR.eq_2 ..
    have hown : ∀ g : Int, AV.Own (AV.one (.v (.int .i64 g))) := fun g => .v _
    refine seqE ?_
    refine litE (m := 0) rfl ?_
    refine seqE ?_
    refine seqE ?_
    refine brDF hg (fun hg h1 => ?_) (fun hg h1 => ?_)
    · refine .inl (⟨_, _, c_impl_polHeadOk p0, (FzAs.same _), ?_⟩)
      refine litE (m := 2) rfl ?_
      refine brE hg (fun hg h2 => ?_) (fun hg h2 => ?_)
      · refine seqE ?_
        exact leafE hown hg
      · refine seqE ?_
        refine seqE ?_
        refine seqE ?_
        refine lenM fun hN3 => ?_
        refine loopLE hg [1, 16, 17] (fun x1 => [(5, .one (.v (.int .i64 x1.s))), (18, .one (.v (.int .i64 ((x1.i : Nat) : Int))))]) (fun x1 => [.dead, .dead]) [none, none] ?_ (fun x1 => ?_)
        · exact ⟨rfl, ⟨rfl, rfl, rfl, rfl, rfl, trivial⟩, trivial, trivial⟩
        refine seqE ?_
        refine seqE ?_
        refine tstL (fun hi1 => ?_) (fun hi1 => ?_)
        · have hb1 := (x1.bdy hi1).trans (impl_polParts_b1.eq_1 ..)
          have hw1 := wrap_succ hi1 (by first | assumption | omega)
          refine seqE ?_
          refine seqE ?_
          refine idxAtR (Pol.cells_eq false) hi1 ?_
          refine litE (m := 2) rfl ?_
          refine seqE ?_
          refine .inl (⟨_, _, ih (p0.L[x1.i]'hi1) (IntKind.i64.wrap (p1 + 1)) (by first | exact hm0 _ (List.getElem_mem _) | exact hm0 _ (List.mem_of_getElem? (by assumption)) | exact Nat.lt_of_lt_of_le (Pol.dep_lt (List.getElem_mem _)) (Nat.le_of_lt_succ hd0) | exact Nat.lt_of_lt_of_le (Pol.dep_lt (List.mem_of_getElem? (by assumption))) (Nat.le_of_lt_succ hd0)), (FzAs.same _), ?_⟩)
          refine litE (m := 4) rfl ?_
          refine seqE ?_
          refine brD hb1 (fun hb1 h4 => ?_) (fun hb1 h4 => x1.goE hi1 hb1 [none, none] ⟨rfl, ⟨rfl, (eqInt hw1), rfl, rfl, rfl, trivial⟩, trivial, trivial⟩)
          refine seqE ?_
          have hg := donE hg (x1.outD hi1 hb1)
          exact leafE hown hg
        have hg := finE hg (x1.fin hi1)
        refine seqE ?_
        exact leafE hown hg
    · refine seqE ?_
      exact leafE hown hg
def impl_polParts (p0 : Pol) (p1 : Int) : Int := impl_polPartsR (Pol.dep p0 + 1) p0 p1
theorem c_impl_polParts (p0 : Pol) (p1 : Int) : FnOk prog 156 [.agg (Pol.opn false p0), .one (.v (.int .i64 p1))] ⟨.one (.v (.int .i64 (impl_polParts p0 p1))), [], [], false⟩ := cR_impl_polParts _ p0 p1 (Nat.lt_succ_self _)
def impl_PolOk (p0 : Pol) : Bool :=
  (decide ((impl_polParts p0 1) ≤ 12))
theorem c_impl_PolOk (p0 : Pol) : FnOk prog 111 [.agg (Pol.opn false p0)] ⟨.one (.v (.bool (impl_PolOk p0))), [], [], false⟩ := by
  refine FnOk.intro (E := env) envOk wide func111 rfl (by kernel_rfl) rfl rfl ?_
  have hg := impl_PolOk.eq_1 p0
  have hown : ∀ g : Bool, AV.Own (AV.one (.v (.bool g))) := fun g => .v _
  refine seqE ?_
  refine litE (m := 0) rfl ?_
  refine seqE ?_
  refine .inl (⟨_, _, c_impl_polParts p0 1, (FzAs.same _), ?_⟩)
  refine litE (m := 2) rfl ?_
  exact leafE hown hg
def impl_ConfOk (p0 : Conf) : Bool :=
  (bif (impl_within p0.Stripes 1 3) then (bif (impl_within p0.Wait 1 50) then (bif (impl_within p0.Budget 1 190) then (bif (impl_within p0.Cache 1 6) then (bif (impl_within p0.Queue 1 4) then (bif (impl_within p0.Rate 0 99) then (bif (impl_within p0.Burst 0 999) then (impl_PolOk p0.Rule) else false) else false) else false) else false) else false) else false) else false)
theorem c_impl_ConfOk (p0 : Conf) : FnOk prog 51 [.agg ((Conf.cells false) p0)] ⟨.one (.v (.bool (impl_ConfOk p0))), [], [], false⟩ := by
  refine FnOk.intro (E := env) envOk wide func51 rfl (by kernel_rfl) rfl rfl ?_
  have hg := impl_ConfOk.eq_1 p0
  have hown : ∀ g : Bool, AV.Own (AV.one (.v (.bool g))) := fun g => .v _
  refine seqE ?_
  refine litE (m := 0) rfl ?_
  refine seqE ?_
  refine .inl (⟨_, _, c_impl_within p0.Stripes 1 3, (FzAs.same _), ?_⟩)
  refine litE (m := 2) rfl ?_
  refine brE hg (fun hg h1 => ?_) (fun hg h1 => leafE hown hg)
  refine .inl (⟨_, _, c_impl_within p0.Wait 1 50, (FzAs.same _), ?_⟩)
  refine litE (m := 3) rfl ?_
  refine brE hg (fun hg h2 => ?_) (fun hg h2 => leafE hown hg)
  refine .inl (⟨_, _, c_impl_within p0.Budget 1 190, (FzAs.same _), ?_⟩)
  refine litE (m := 4) rfl ?_
  refine brE hg (fun hg h3 => ?_) (fun hg h3 => leafE hown hg)
  refine .inl (⟨_, _, c_impl_within p0.Cache 1 6, (FzAs.same _), ?_⟩)
  refine litE (m := 5) rfl ?_
  refine brE hg (fun hg h4 => ?_) (fun hg h4 => leafE hown hg)
  refine .inl (⟨_, _, c_impl_within p0.Queue 1 4, (FzAs.same _), ?_⟩)
  refine litE (m := 6) rfl ?_
  refine brE hg (fun hg h5 => ?_) (fun hg h5 => leafE hown hg)
  refine .inl (⟨_, _, c_impl_within p0.Rate 0 99, (FzAs.same _), ?_⟩)
  refine litE (m := 7) rfl ?_
  refine brE hg (fun hg h6 => ?_) (fun hg h6 => leafE hown hg)
  refine .inl (⟨_, _, c_impl_within p0.Burst 0 999, (FzAs.same _), ?_⟩)
  refine litE (m := 8) rfl ?_
  refine brE hg (fun hg h7 => ?_) (fun hg h7 => leafE hown hg)
  refine .inl (⟨_, _, c_impl_PolOk p0.Rule, (FzAs.same _), ?_⟩)
  refine litE (m := 9) rfl ?_
  exact leafE hown hg
def impl_copyPol_b1 (r0 : (Pol → Pol)) (i1 : Nat) (s1 : (List Pol)) (a1 : Pol) : Step ((List Pol)) Pol :=
  (.next (s1 ++ [(r0 a1)]))
def impl_copyPolR : Nat → Pol → Pol
  | 0, _ => default
  | n + 1, p0 => (Fin.get (fun s1 => (Pol.mk p0.Kind p0.N p0.Key p0.Text s1)) (loopL (impl_copyPol_b1 (impl_copyPolR n)) 0 ([] : List Pol) p0.L))
theorem cR_impl_copyPol : ∀ (n : Nat) (p0 : Pol), Pol.dep p0 < n → Pol.bd 1048576 p0 → FnOk prog 112 [.agg (Pol.opn false p0)] ⟨.agg (Pol.opn true (impl_copyPolR n p0)), [], [], false⟩ := by
  intro n
  induction n with
  | zero => intro p0 hd0; omega
  | succ n ih =>
    intro p0 hd0 hs
    refine FnOk.intro (E := env) envOk wide func112 rfl (by kernel_rfl) rfl rfl ?_
    have hg : impl_copyPolR (n + 1) p0 = _ := impl_copyPolR.eq_2 ..
    have hown : ∀ g : Pol, AV.Own (AV.agg (Pol.opn true g)) := fun g => ownO_Pol _
    refine seqE ?_
    refine litE (m := 0) rfl ?_
    refine litE (m := 1) rfl ?_
    refine seqE ?_
    refine litE (m := 2) rfl ?_
    refine seqE ?_
    refine seqE ?_
    refine seqE ?_
    refine lenM fun hN1 => ?_
    refine loopLI (fun (i : Nat) (s : List Pol) => s.length ≤ i) hg (Nat.le_refl _) [2, 3, 9, 10] (fun x1 => [(11, .one (.v (.int .i64 ((x1.i : Nat) : Int))))]) (fun x1 => [.dead, .keep 1, .new ⟨5, true, [[.v (.int .i64 p0.Kind), .v (.int .i64 p0.N), .v (.string p0.Key), .v (.string p0.Text), .n 3 [] 1 0 (x1.s).length]], 0⟩, .new ⟨5, false, List.map (Pol.cells true) x1.s, 0⟩]) [none, some 1, some 2, none] ?_ (fun x1 => ?_)
    · exact ⟨rfl, ⟨rfl, ⟨rfl, rfl, rfl, rfl⟩, ⟨rfl, rfl, rfl, rfl⟩, rfl, rfl, trivial⟩, ⟨⟨rfl, rfl, ⟨rfl, rfl, rfl, rfl, rfl, trivial⟩⟩, ⟨rfl, rfl, ⟨rfl, rfl, rfl, rfl, ⟨rfl, rfl, rfl, rfl, rfl⟩, trivial⟩⟩, ⟨rfl, rfl⟩, trivial⟩, trivial⟩
    have hI1 := x1.hI
    try dsimp only at hI1
    refine seqE ?_
    refine seqE ?_
    refine tstL (fun hi1 => ?_) (fun hi1 => ?_)
    · have hb1 := (x1.bdy hi1).trans (impl_copyPol_b1.eq_1 ..)
      have hw1 := wrap_succ hi1 (by first | assumption | omega)
      refine seqE ?_
      refine seqE ?_
      refine idxAtR (Pol.cells_eq false) hi1 ?_
      refine litE (m := 4) rfl ?_
      refine .inr (.inr (.inr (.inl ⟨(.q 0 (.b 1 (.o 2 (.o 3 (.o 4 (.o 5 (.o 6 (.o 7 .leaf)))))) 2 (.b 1 (.o 3 (.o 4 (.o 5 (.o 6 (.o 7 .leaf))))) 3 (.b 1 (.o 4 (.o 5 (.o 6 (.o 7 .leaf)))) 4 (.o 1 (.o 5 (.o 6 (.o 7 .leaf)))))))), by kernel_rfl, ?_⟩)))
      refine And.intro ?_ ?_
      · refine .inl (⟨_, _, ih (p0.L[x1.i]'hi1) (by first | exact hm0 _ (List.getElem_mem _) | exact hm0 _ (List.mem_of_getElem? (by assumption)) | exact Nat.lt_of_lt_of_le (Pol.dep_lt (List.getElem_mem _)) (Nat.le_of_lt_succ hd0) | exact Nat.lt_of_lt_of_le (Pol.dep_lt (List.mem_of_getElem? (by assumption))) (Nat.le_of_lt_succ hd0)) (by exact (Pol.bd_eq.1 hs).2.2.get hi1), (FzAs.same _), ?_⟩)
        refine litE (m := 6) rfl ?_
        refine litE (m := 7) rfl ?_
        refine .inl ?_
        refine rowsE (Y := List.map (Pol.cells true) (x1.s ++ [((impl_copyPolR n) (p0.L[x1.i]'hi1))])) (by first | rfl | (simp [subR0, subR1, -List.map_take, -List.map_drop, take_map', drop_map', fz_Pol, fzMap fz_Pol, shMap sh_Pol, Pol.cells_eq]; done) | (simp [subR0, subR1, -List.map_take, -List.map_drop, take_map', drop_map', fz_Pol, fzMap fz_Pol, shMap sh_Pol, Pol.cells_eq]; rfl)) ?_
        refine appB (b := 72) (hs := by have q0 : p0.L.length ≤ 1048576 := (Pol.bd_eq.1 hs).2.2.1; have q1 := hI1; have q2 := hi1; refine ⟨?_, ?_⟩; (show List.length _ * 72 ≤ _); (try simp only [List.length_map, List.length_append, List.length_cons, List.length_nil]); omega; (try simp only [List.length_map, List.length_append, List.length_cons, List.length_nil]); omega) ?_
        refine litE (m := 8) rfl ?_
        exact x1.goE hi1 hb1 (by have q1 := hI1; simp only [List.length_map, List.length_append, List.length_cons, List.length_nil]; omega) [none, some 1, some 2, some 8] ⟨rfl, ⟨(eqInt hw1), ⟨rfl, rfl, rfl, rfl⟩, ⟨rfl, rfl, rfl, rfl⟩, rfl, rfl, trivial⟩, ⟨⟨rfl, rfl, ⟨rfl, rfl, rfl, rfl, rfl, trivial⟩⟩, ⟨rfl, rfl, ⟨rfl, rfl, rfl, rfl, ⟨rfl, rfl, rfl, rfl, by (first | rfl | omega | (dsimp only; omega) | (simp; done) | (simp; omega) | (simp [LstSt.init, LstSt.step, LstInv.init, CntSt.init, CntSt.step, CntInv.init, WhlSt.init, WhlSt.step]; done) | (simp [LstSt.init, LstSt.step, LstInv.init, CntSt.init, CntSt.step, CntInv.init, WhlSt.init, WhlSt.step]; omega))⟩, trivial⟩⟩, ⟨rfl, rfl, rfl⟩, trivial⟩, trivial⟩
      refine And.intro ?_ ?_
      · refine .inl (⟨_, _, ih (p0.L[x1.i]'hi1) (by first | exact hm0 _ (List.getElem_mem _) | exact hm0 _ (List.mem_of_getElem? (by assumption)) | exact Nat.lt_of_lt_of_le (Pol.dep_lt (List.getElem_mem _)) (Nat.le_of_lt_succ hd0) | exact Nat.lt_of_lt_of_le (Pol.dep_lt (List.mem_of_getElem? (by assumption))) (Nat.le_of_lt_succ hd0)) (by exact (Pol.bd_eq.1 hs).2.2.get hi1), (FzAs.same _), ?_⟩)
        refine litE (m := 6) rfl ?_
        refine litE (m := 7) rfl ?_
        refine .inl ?_
        refine rowsE (Y := List.map (Pol.cells true) (x1.s ++ [((impl_copyPolR n) (p0.L[x1.i]'hi1))])) (by first | rfl | (simp [subR0, subR1, -List.map_take, -List.map_drop, take_map', drop_map', fz_Pol, fzMap fz_Pol, shMap sh_Pol, Pol.cells_eq]; done) | (simp [subR0, subR1, -List.map_take, -List.map_drop, take_map', drop_map', fz_Pol, fzMap fz_Pol, shMap sh_Pol, Pol.cells_eq]; rfl)) ?_
        refine appB (b := 72) (hs := by have q0 : p0.L.length ≤ 1048576 := (Pol.bd_eq.1 hs).2.2.1; have q1 := hI1; have q2 := hi1; refine ⟨?_, ?_⟩; (show List.length _ * 72 ≤ _); (try simp only [List.length_map, List.length_append, List.length_cons, List.length_nil]); omega; (try simp only [List.length_map, List.length_append, List.length_cons, List.length_nil]); omega) ?_
        refine litE (m := 8) rfl ?_
        exact x1.goE hi1 hb1 (by have q1 := hI1; simp only [List.length_map, List.length_append, List.length_cons, List.length_nil]; omega) [none, some 1, some 2, some 8] ⟨rfl, ⟨(eqInt hw1), ⟨rfl, rfl, rfl, rfl⟩, ⟨rfl, rfl, rfl, rfl⟩, rfl, rfl, trivial⟩, ⟨⟨rfl, rfl, ⟨rfl, rfl, rfl, rfl, rfl, trivial⟩⟩, ⟨rfl, rfl, ⟨rfl, rfl, rfl, rfl, ⟨rfl, rfl, rfl, rfl, by (first | rfl | omega | (dsimp only; omega) | (simp; done) | (simp; omega) | (simp [LstSt.init, LstSt.step, LstInv.init, CntSt.init, CntSt.step, CntInv.init, WhlSt.init, WhlSt.step]; done) | (simp [LstSt.init, LstSt.step, LstInv.init, CntSt.init, CntSt.step, CntInv.init, WhlSt.init, WhlSt.step]; omega))⟩, trivial⟩⟩, ⟨rfl, rfl, rfl⟩, trivial⟩, trivial⟩
      refine .inl (⟨_, _, ih (p0.L[x1.i]'hi1) (by first | exact hm0 _ (List.getElem_mem _) | exact hm0 _ (List.mem_of_getElem? (by assumption)) | exact Nat.lt_of_lt_of_le (Pol.dep_lt (List.getElem_mem _)) (Nat.le_of_lt_succ hd0) | exact Nat.lt_of_lt_of_le (Pol.dep_lt (List.mem_of_getElem? (by assumption))) (Nat.le_of_lt_succ hd0)) (by exact (Pol.bd_eq.1 hs).2.2.get hi1), (FzAs.same _), ?_⟩)
      refine litE (m := 6) rfl ?_
      refine And.intro ?_ ?_
      · refine litE (m := 7) rfl ?_
        refine .inl ?_
        refine rowsE (Y := List.map (Pol.cells true) (x1.s ++ [((impl_copyPolR n) (p0.L[x1.i]'hi1))])) (by first | rfl | (simp [subR0, subR1, -List.map_take, -List.map_drop, take_map', drop_map', fz_Pol, fzMap fz_Pol, shMap sh_Pol, Pol.cells_eq]; done) | (simp [subR0, subR1, -List.map_take, -List.map_drop, take_map', drop_map', fz_Pol, fzMap fz_Pol, shMap sh_Pol, Pol.cells_eq]; rfl)) ?_
        refine appB (b := 72) (hs := by have q0 : p0.L.length ≤ 1048576 := (Pol.bd_eq.1 hs).2.2.1; have q1 := hI1; have q2 := hi1; refine ⟨?_, ?_⟩; (show List.length _ * 72 ≤ _); (try simp only [List.length_map, List.length_append, List.length_cons, List.length_nil]); omega; (try simp only [List.length_map, List.length_append, List.length_cons, List.length_nil]); omega) ?_
        refine litE (m := 8) rfl ?_
        exact x1.goE hi1 hb1 (by have q1 := hI1; simp only [List.length_map, List.length_append, List.length_cons, List.length_nil]; omega) [none, some 1, some 2, some 8] ⟨rfl, ⟨(eqInt hw1), ⟨rfl, rfl, rfl, rfl⟩, ⟨rfl, rfl, rfl, rfl⟩, rfl, rfl, trivial⟩, ⟨⟨rfl, rfl, ⟨rfl, rfl, rfl, rfl, rfl, trivial⟩⟩, ⟨rfl, rfl, ⟨rfl, rfl, rfl, rfl, ⟨rfl, rfl, rfl, rfl, by (first | rfl | omega | (dsimp only; omega) | (simp; done) | (simp; omega) | (simp [LstSt.init, LstSt.step, LstInv.init, CntSt.init, CntSt.step, CntInv.init, WhlSt.init, WhlSt.step]; done) | (simp [LstSt.init, LstSt.step, LstInv.init, CntSt.init, CntSt.step, CntInv.init, WhlSt.init, WhlSt.step]; omega))⟩, trivial⟩⟩, ⟨rfl, rfl, rfl⟩, trivial⟩, trivial⟩
      refine litE (m := 7) rfl ?_
      refine .inl ?_
      refine rowsE (Y := List.map (Pol.cells true) (x1.s ++ [((impl_copyPolR n) (p0.L[x1.i]'hi1))])) (by first | rfl | (simp [subR0, subR1, -List.map_take, -List.map_drop, take_map', drop_map', fz_Pol, fzMap fz_Pol, shMap sh_Pol, Pol.cells_eq]; done) | (simp [subR0, subR1, -List.map_take, -List.map_drop, take_map', drop_map', fz_Pol, fzMap fz_Pol, shMap sh_Pol, Pol.cells_eq]; rfl)) ?_
      refine appB (b := 72) (hs := by have q0 : p0.L.length ≤ 1048576 := (Pol.bd_eq.1 hs).2.2.1; have q1 := hI1; have q2 := hi1; refine ⟨?_, ?_⟩; (show List.length _ * 72 ≤ _); (try simp only [List.length_map, List.length_append, List.length_cons, List.length_nil]); omega; (try simp only [List.length_map, List.length_append, List.length_cons, List.length_nil]); omega) ?_
      refine litE (m := 8) rfl ?_
      exact x1.goE hi1 hb1 (by have q1 := hI1; simp only [List.length_map, List.length_append, List.length_cons, List.length_nil]; omega) [none, some 1, some 2, some 8] ⟨rfl, ⟨(eqInt hw1), ⟨rfl, rfl, rfl, rfl⟩, ⟨rfl, rfl, rfl, rfl⟩, rfl, rfl, trivial⟩, ⟨⟨rfl, rfl, ⟨rfl, rfl, rfl, rfl, rfl, trivial⟩⟩, ⟨rfl, rfl, ⟨rfl, rfl, rfl, rfl, ⟨rfl, rfl, rfl, rfl, by (first | rfl | omega | (dsimp only; omega) | (simp; done) | (simp; omega) | (simp [LstSt.init, LstSt.step, LstInv.init, CntSt.init, CntSt.step, CntInv.init, WhlSt.init, WhlSt.step]; done) | (simp [LstSt.init, LstSt.step, LstInv.init, CntSt.init, CntSt.step, CntInv.init, WhlSt.init, WhlSt.step]; omega))⟩, trivial⟩⟩, ⟨rfl, rfl, rfl⟩, trivial⟩, trivial⟩
    have hg := finE hg (x1.fin hi1)
    refine seqE ?_
    exact leafE hown hg
def impl_copyPol (p0 : Pol) : Pol := impl_copyPolR (Pol.dep p0 + 1) p0
theorem c_impl_copyPol (p0 : Pol) (hs : Pol.bd 1048576 p0) : FnOk prog 112 [.agg (Pol.opn false p0)] ⟨.agg (Pol.opn true (impl_copyPol p0)), [], [], false⟩ := cR_impl_copyPol _ p0 (Nat.lt_succ_self _) hs
def impl_copyConf (p0 : Conf) : Conf :=
  (Conf.mk p0.Stripes p0.Wait p0.Budget p0.Cache p0.Queue p0.Rate p0.Burst (impl_copyPol p0.Rule))
theorem c_impl_copyConf (p0 : Conf) (hs : Conf.bd 1048576 p0) : FnOk prog 52 [.agg ((Conf.cells false) p0)] ⟨.agg ((Conf.cells true) (impl_copyConf p0)), [], [], false⟩ := by
  refine FnOk.intro (E := env) envOk wide func52 rfl (by kernel_rfl) rfl rfl ?_
  have hg := impl_copyConf.eq_1 p0
  have hown : ∀ g : Conf, AV.Own (AV.agg ((Conf.cells true) g)) := fun g => own_Conf _
  refine seqE ?_
  refine litE (m := 0) rfl ?_
  refine litE (m := 1) rfl ?_
  refine seqE ?_
  refine .inl (⟨_, _, c_impl_copyPol p0.Rule (by exact hs), (FzAs.same _), ?_⟩)
  refine litE (m := 3) rfl ?_
  refine seqE ?_
  exact leafE hown hg
def impl_BucketNew (p0 : Int) (p1 : Int) : Bucket :=
  (Bucket.mk p0 p1 p1 0)
theorem c_impl_BucketNew (p0 : Int) (p1 : Int) : FnOk prog 53 [.one (.v (.int .i64 p0)), .one (.v (.int .i64 p1))] ⟨.agg (Bucket.cells (impl_BucketNew p0 p1)), [], [], false⟩ := by
  refine FnOk.intro (E := env) envOk wide func53 rfl (by kernel_rfl) rfl rfl ?_
  have hg := impl_BucketNew.eq_1 p0 p1
  have hown : ∀ g : Bucket, AV.Own (AV.agg (Bucket.cells g)) := fun g => own_Bucket _
  refine seqE ?_
  refine litE (m := 0) rfl ?_
  refine seqE ?_
  exact leafE hown hg
def impl_ModelNew (p0 : Conf) : Model :=
  (bif (!(impl_ConfOk p0)) then (Model.mk (Conf.mk 0 0 0 0 0 0 0 (Pol.mk 0 0 (ByteArray.mk #[]) (ByteArray.mk #[]) ([] : List Pol))) false ([] : List Trail) ([] : List Verdict) (Bucket.mk 0 0 0 0) 0) else (Model.mk (impl_copyConf p0) false ([] : List Trail) ([] : List Verdict) (impl_BucketNew p0.Rate p0.Burst) 0))
theorem c_impl_ModelNew (p0 : Conf) (hs : Conf.bd 1048576 p0) : FnOk prog 19 [.agg ((Conf.cells false) p0)] ⟨.agg ((Model.cells true) (impl_ModelNew p0)), [], [], false⟩ := by
  refine FnOk.intro (E := env) envOk wide func19 rfl (by kernel_rfl) rfl rfl ?_
  have hg := impl_ModelNew.eq_1 p0
  have hown : ∀ g : Model, AV.Own (AV.agg ((Model.cells true) g)) := fun g => own_Model _
  refine seqE ?_
  refine litE (m := 0) rfl ?_
  refine litE (m := 1) rfl ?_
  refine seqE ?_
  refine seqE ?_
  refine .inl (⟨_, _, c_impl_ConfOk p0, (FzAs.same _), ?_⟩)
  refine litE (m := 3) rfl ?_
  refine brE hg (fun hg h1 => ?_) (fun hg h1 => ?_)
  · refine seqE ?_
    exact leafE hown hg
  · refine seqE ?_
    refine .inr (.inl ⟨8, [(0, true), (2, true), (3, true), (4, true), (5, true), (1, false), (6, false), (7, false)], by kernel_rfl, ?_⟩)
    refine ⟨_, _, c_impl_copyConf p0 (by exact hs), (FzAs.same _), ?_⟩
    refine litE (m := 4) rfl ?_
    refine ⟨_, _, c_impl_BucketNew p0.Rate p0.Burst, (FzAs.same _), ?_⟩
    refine litE (m := 6) rfl ?_
    exact leafE hown hg
def laws_eqPolS_b1 (r0 : (Pol → Pol → Bool)) (p1 : (List Pol)) (i1 : Nat) (s1 : Unit) (a1 : Pol) : Step (Unit) Bool :=
  (bif (!(r0 a1 (p1[i1]?.getD default))) then (.done false) else (.next ()))
def laws_eqPolS (r0 : Pol → Pol → Bool) (p0 : (List Pol)) (p1 : (List Pol)) : Bool :=
  (bif ((((p0).length : Nat) : Int) != (((p1).length : Nat) : Int)) then false else (Fin.get (fun s1 => true) (loopL (laws_eqPolS_b1 r0 p1) 0 () p0)))
theorem c_laws_eqPolS (r0 : Pol → Pol → Bool) (p0 : (List Pol)) (p1 : (List Pol)) (m0 : Nat) (hrec0 : ∀ (z0 : Pol) (z1 : Pol), Pol.dep z0 < m0 → FnOk prog 57 [.agg (Pol.opn false z0), .agg (Pol.opn false z1)] ⟨.one (.v (.bool (r0 z0 z1))), [], [], false⟩) (hm0 : ∀ x ∈ p0, Pol.dep x < m0) : FnOk prog 115 [.one (.s false 5 (List.map (Pol.cells false) p0)), .one (.s false 5 (List.map (Pol.cells false) p1))] ⟨.one (.v (.bool (laws_eqPolS r0 p0 p1))), [], [], false⟩ := by
  refine FnOk.intro (E := env) envOk wide func115 rfl (by kernel_rfl) rfl rfl ?_
  have hg := laws_eqPolS.eq_1 r0 p0 p1
  have hown : ∀ g : Bool, AV.Own (AV.one (.v (.bool g))) := fun g => .v _
  refine seqE ?_
  refine seqE ?_
  refine seqE ?_
  refine lenM fun hN1 => ?_
  refine lenM fun hN2 => ?_
  refine brW hg (fun hg h3 => ?_) (fun hg h3 => ?_)
  · refine seqE ?_
    exact leafE hown hg
  · refine seqE ?_
    refine seqE ?_
    refine loopLE hg [0, 1] (fun x1 => [(5, .one (.v (.int .i64 ((x1.i : Nat) : Int))))]) (fun x1 => []) [] ?_ (fun x1 => ?_)
    · exact ⟨rfl, ⟨rfl, rfl, rfl, trivial⟩, trivial, trivial⟩
    refine seqE ?_
    refine seqE ?_
    refine lenM fun hN4 => ?_
    refine tstL (fun hi1 => ?_) (fun hi1 => ?_)
    · have hb1 := (x1.bdy hi1).trans (laws_eqPolS_b1.eq_1 ..)
      have hw1 := wrap_succ hi1 (by first | assumption | omega)
      refine seqE ?_
      refine seqE ?_
      refine .inl ⟨by kernel_rfl, ?_⟩
      refine idxAtR (Pol.cells_eq false) hi1 ?_
      refine idxOfR (Pol.cells_eq false) (l := p1) (by (first | omega | (simp (disch := omega) only [wrap_small, mid_eq, List.length_map]; omega) | (simp; done) | (simp; omega) | (simp at *; omega) | (simp at *; done) | (simp_all; done) | (simp_all; omega))) (fun hq5 => ?_)
      refine ⟨_, _, hrec0 (p0[x1.i]'hi1) (p1[x1.i]?.getD default) (by first | exact hm0 _ (List.getElem_mem _) | exact hm0 _ (List.mem_of_getElem? (by assumption)) | exact Nat.lt_of_lt_of_le (Pol.dep_lt (List.getElem_mem _)) (Nat.le_of_lt_succ hd0) | exact Nat.lt_of_lt_of_le (Pol.dep_lt (List.mem_of_getElem? (by assumption))) (Nat.le_of_lt_succ hd0)), (FzAs.same _), ?_⟩
      refine brE hb1 (fun hb1 h6 => ?_) (fun hb1 h6 => x1.goE hi1 hb1 [] ⟨rfl, ⟨(eqInt hw1), rfl, rfl, trivial⟩, trivial, trivial⟩)
      refine seqE ?_
      have hg := donE hg (x1.outD hi1 hb1)
      exact leafE hown hg
    have hg := finE hg (x1.fin hi1)
    refine seqE ?_
    exact leafE hown hg
def laws_eqPolR : Nat → Pol → Pol → Bool
  | 0, _, _ => default
  | n + 1, p0, p1 => (bif (p0.Kind != p1.Kind) then false else (bif (p0.N != p1.N) then false else (bif (!decide (p0.Key = p1.Key)) then false else (bif (!decide (p0.Text = p1.Text)) then false else (bif (!(laws_eqPolS (laws_eqPolR n) p0.L p1.L)) then false else true)))))
theorem cR_laws_eqPol : ∀ (n : Nat) (p0 : Pol) (p1 : Pol), Pol.dep p0 < n → FnOk prog 57 [.agg (Pol.opn false p0), .agg (Pol.opn false p1)] ⟨.one (.v (.bool (laws_eqPolR n p0 p1))), [], [], false⟩ := by
  intro n
  induction n with
  | zero => intro p0 p1 hd0; omega
  | succ n ih =>
    intro p0 p1 hd0
    refine FnOk.intro (E := env) envOk wide func57 rfl (by kernel_rfl) rfl rfl ?_
    have hg : laws_eqPolR (n + 1) p0 p1 = _ := laws_eqPolR.eq_2 ..
    have hown : ∀ g : Bool, AV.Own (AV.one (.v (.bool g))) := fun g => .v _
    refine seqE ?_
    refine litE (m := 0) rfl ?_
    refine litE (m := 1) rfl ?_
    refine seqE ?_
    refine seqE ?_
    refine brW hg (fun hg h1 => ?_) (fun hg h1 => ?_)
    · refine seqE ?_
      exact leafE hown hg
    · refine seqE ?_
      refine seqE ?_
      refine brW hg (fun hg h2 => ?_) (fun hg h2 => ?_)
      · refine seqE ?_
        exact leafE hown hg
      · refine seqE ?_
        refine seqE ?_
        refine brE hg (fun hg h3 => ?_) (fun hg h3 => ?_)
        · refine seqE ?_
          exact leafE hown hg
        · refine seqE ?_
          refine seqE ?_
          refine brE hg (fun hg h4 => ?_) (fun hg h4 => ?_)
          · refine seqE ?_
            exact leafE hown hg
          · refine seqE ?_
            refine seqE ?_
            refine .inl (⟨_, _, c_laws_eqPolS (laws_eqPolR n) p0.L p1.L n ih (by first | exact hm0 | exact fun x hx => Nat.lt_of_lt_of_le (Pol.dep_lt hx) (Nat.le_of_lt_succ hd0)), (FzAs.same _), ?_⟩)
            refine litE (m := 3) rfl ?_
            refine brE hg (fun hg h5 => ?_) (fun hg h5 => ?_)
            · refine seqE ?_
              exact leafE hown hg
            · refine seqE ?_
              exact leafE hown hg
def laws_eqPol (p0 : Pol) (p1 : Pol) : Bool := laws_eqPolR (Pol.dep p0 + 1) p0 p1
theorem c_laws_eqPol (p0 : Pol) (p1 : Pol) : FnOk prog 57 [.agg (Pol.opn false p0), .agg (Pol.opn false p1)] ⟨.one (.v (.bool (laws_eqPol p0 p1))), [], [], false⟩ := cR_laws_eqPol _ p0 p1 (Nat.lt_succ_self _)
theorem rfR_laws_eqPol : ∀ (n : Nat) (x : Pol), Pol.dep x < n → laws_eqPolR n x x = true := by
  intro n
  induction n with
  | zero => intro x h; omega
  | succ n ih =>
    intro x h
    have e : laws_eqPolS (laws_eqPolR n) x.L x.L = true := eqS_okM (b := laws_eqPolS_b1 (laws_eqPolR n)) x.L (fun a ha => ih a (Nat.lt_of_lt_of_le (Pol.dep_lt ha) (Nat.le_of_lt_succ h))) (fun _ _ _ _ => rfl) (fun _ _ => rfl)
    simp [laws_eqPolR, e]
theorem rf_laws_eqPol (x : Pol) : laws_eqPol x x = true := rfR_laws_eqPol _ x (Nat.lt_succ_self _)
def laws_eqConf (p0 : Conf) (p1 : Conf) : Bool :=
  (bif (p0.Stripes != p1.Stripes) then false else (bif (p0.Wait != p1.Wait) then false else (bif (p0.Budget != p1.Budget) then false else (bif (p0.Cache != p1.Cache) then false else (bif (p0.Queue != p1.Queue) then false else (bif (p0.Rate != p1.Rate) then false else (bif (p0.Burst != p1.Burst) then false else (bif (!(laws_eqPol p0.Rule p1.Rule)) then false else true))))))))
theorem c_laws_eqConf (p0 : Conf) (p1 : Conf) : FnOk prog 21 [.agg ((Conf.cells false) p0), .agg ((Conf.cells false) p1)] ⟨.one (.v (.bool (laws_eqConf p0 p1))), [], [], false⟩ := by
  refine FnOk.intro (E := env) envOk wide func21 rfl (by kernel_rfl) rfl rfl ?_
  have hg := laws_eqConf.eq_1 p0 p1
  have hown : ∀ g : Bool, AV.Own (AV.one (.v (.bool g))) := fun g => .v _
  refine seqE ?_
  refine litE (m := 0) rfl ?_
  refine litE (m := 1) rfl ?_
  refine seqE ?_
  refine seqE ?_
  refine brW hg (fun hg h1 => ?_) (fun hg h1 => ?_)
  · refine seqE ?_
    exact leafE hown hg
  · refine seqE ?_
    refine seqE ?_
    refine brW hg (fun hg h2 => ?_) (fun hg h2 => ?_)
    · refine seqE ?_
      exact leafE hown hg
    · refine seqE ?_
      refine seqE ?_
      refine brW hg (fun hg h3 => ?_) (fun hg h3 => ?_)
      · refine seqE ?_
        exact leafE hown hg
      · refine seqE ?_
        refine seqE ?_
        refine brW hg (fun hg h4 => ?_) (fun hg h4 => ?_)
        · refine seqE ?_
          exact leafE hown hg
        · refine seqE ?_
          refine seqE ?_
          refine brW hg (fun hg h5 => ?_) (fun hg h5 => ?_)
          · refine seqE ?_
            exact leafE hown hg
          · refine seqE ?_
            refine seqE ?_
            refine brW hg (fun hg h6 => ?_) (fun hg h6 => ?_)
            · refine seqE ?_
              exact leafE hown hg
            · refine seqE ?_
              refine seqE ?_
              refine brW hg (fun hg h7 => ?_) (fun hg h7 => ?_)
              · refine seqE ?_
                exact leafE hown hg
              · refine seqE ?_
                refine seqE ?_
                refine .inl (⟨_, _, c_laws_eqPol p0.Rule p1.Rule, (FzAs.same _), ?_⟩)
                refine litE (m := 3) rfl ?_
                refine brE hg (fun hg h8 => ?_) (fun hg h8 => ?_)
                · refine seqE ?_
                  exact leafE hown hg
                · refine seqE ?_
                  exact leafE hown hg
theorem rf_laws_eqConf (x : Conf) : laws_eqConf x x = true := by
  simp [laws_eqConf, rf_laws_eqPol]
def laws_eqAttr (p0 : Attr) (p1 : Attr) : Bool :=
  (bif (!decide (p0.Key = p1.Key)) then false else (bif (!(p0.Num == p1.Num)) then false else (bif (p0.N != p1.N) then false else (bif (!decide (p0.Text = p1.Text)) then false else true))))
theorem c_laws_eqAttr (p0 : Attr) (p1 : Attr) : FnOk prog 160 [.agg (Attr.cells p0), .agg (Attr.cells p1)] ⟨.one (.v (.bool (laws_eqAttr p0 p1))), [], [], false⟩ := by
  refine FnOk.intro (E := env) envOk wide func160 rfl (by kernel_rfl) rfl rfl ?_
  have hg := laws_eqAttr.eq_1 p0 p1
  have hown : ∀ g : Bool, AV.Own (AV.one (.v (.bool g))) := fun g => .v _
  refine seqE ?_
  refine litE (m := 0) rfl ?_
  refine litE (m := 1) rfl ?_
  refine seqE ?_
  refine seqE ?_
  refine brE hg (fun hg h1 => ?_) (fun hg h1 => ?_)
  · refine seqE ?_
    exact leafE hown hg
  · refine seqE ?_
    refine seqE ?_
    refine brE hg (fun hg h2 => ?_) (fun hg h2 => ?_)
    · refine seqE ?_
      exact leafE hown hg
    · refine seqE ?_
      refine seqE ?_
      refine brW hg (fun hg h3 => ?_) (fun hg h3 => ?_)
      · refine seqE ?_
        exact leafE hown hg
      · refine seqE ?_
        refine seqE ?_
        refine brE hg (fun hg h4 => ?_) (fun hg h4 => ?_)
        · refine seqE ?_
          exact leafE hown hg
        · refine seqE ?_
          exact leafE hown hg
theorem rf_laws_eqAttr (x : Attr) : laws_eqAttr x x = true := by
  simp [laws_eqAttr]
def laws_eqAttrS_b1 (p1 : (List Attr)) (i1 : Nat) (s1 : Unit) (a1 : Attr) : Step (Unit) Bool :=
  (bif (!(laws_eqAttr a1 (p1[i1]?.getD default))) then (.done false) else (.next ()))
def laws_eqAttrS (p0 : (List Attr)) (p1 : (List Attr)) : Bool :=
  (bif ((((p0).length : Nat) : Int) != (((p1).length : Nat) : Int)) then false else (Fin.get (fun s1 => true) (loopL (laws_eqAttrS_b1 p1) 0 () p0)))
theorem c_laws_eqAttrS (p0 : (List Attr)) (p1 : (List Attr)) : FnOk prog 130 [.one (.s false 4 (List.map Attr.cells p0)), .one (.s false 4 (List.map Attr.cells p1))] ⟨.one (.v (.bool (laws_eqAttrS p0 p1))), [], [], false⟩ := by
  refine FnOk.intro (E := env) envOk wide func130 rfl (by kernel_rfl) rfl rfl ?_
  have hg := laws_eqAttrS.eq_1 p0 p1
  have hown : ∀ g : Bool, AV.Own (AV.one (.v (.bool g))) := fun g => .v _
  refine seqE ?_
  refine seqE ?_
  refine seqE ?_
  refine lenM fun hN1 => ?_
  refine lenM fun hN2 => ?_
  refine brW hg (fun hg h3 => ?_) (fun hg h3 => ?_)
  · refine seqE ?_
    exact leafE hown hg
  · refine seqE ?_
    refine seqE ?_
    refine loopLE hg [0, 1] (fun x1 => [(5, .one (.v (.int .i64 ((x1.i : Nat) : Int))))]) (fun x1 => []) [] ?_ (fun x1 => ?_)
    · exact ⟨rfl, ⟨rfl, rfl, rfl, trivial⟩, trivial, trivial⟩
    refine seqE ?_
    refine seqE ?_
    refine lenM fun hN4 => ?_
    refine tstL (fun hi1 => ?_) (fun hi1 => ?_)
    · have hb1 := (x1.bdy hi1).trans (laws_eqAttrS_b1.eq_1 ..)
      have hw1 := wrap_succ hi1 (by first | assumption | omega)
      refine seqE ?_
      refine seqE ?_
      refine .inl ⟨by kernel_rfl, ?_⟩
      refine idxAt hi1 ?_
      refine idxOf (l := p1) (by (first | omega | (simp (disch := omega) only [wrap_small, mid_eq, List.length_map]; omega) | (simp; done) | (simp; omega) | (simp at *; omega) | (simp at *; done) | (simp_all; done) | (simp_all; omega))) (fun hq5 => ?_)
      refine ⟨_, _, c_laws_eqAttr (p0[x1.i]'hi1) (p1[x1.i]?.getD default), (FzAs.same _), ?_⟩
      refine brE hb1 (fun hb1 h6 => ?_) (fun hb1 h6 => x1.goE hi1 hb1 [] ⟨rfl, ⟨(eqInt hw1), rfl, rfl, trivial⟩, trivial, trivial⟩)
      refine seqE ?_
      have hg := donE hg (x1.outD hi1 hb1)
      exact leafE hown hg
    have hg := finE hg (x1.fin hi1)
    refine seqE ?_
    exact leafE hown hg
theorem rf_laws_eqAttrS (x : (List Attr)) : laws_eqAttrS x x = true := eqS_ok (b := laws_eqAttrS_b1) rf_laws_eqAttr (fun _ _ _ _ => rfl) (fun _ _ => rfl) x
def laws_eqSpan (p0 : Span) (p1 : Span) : Bool :=
  (bif (p0.Trace != p1.Trace) then false else (bif (p0.Id != p1.Id) then false else (bif (p0.Start != p1.Start) then false else (bif (p0.End != p1.End) then false else (bif (!(p0.Err == p1.Err)) then false else (bif (!(laws_eqAttrS p0.Attrs p1.Attrs)) then false else true))))))
theorem c_laws_eqSpan (p0 : Span) (p1 : Span) : FnOk prog 79 [.agg ((Span.cells false) p0), .agg ((Span.cells false) p1)] ⟨.one (.v (.bool (laws_eqSpan p0 p1))), [], [], false⟩ := by
  refine FnOk.intro (E := env) envOk wide func79 rfl (by kernel_rfl) rfl rfl ?_
  have hg := laws_eqSpan.eq_1 p0 p1
  have hown : ∀ g : Bool, AV.Own (AV.one (.v (.bool g))) := fun g => .v _
  refine seqE ?_
  refine litE (m := 0) rfl ?_
  refine litE (m := 1) rfl ?_
  refine seqE ?_
  refine seqE ?_
  refine brW hg (fun hg h1 => ?_) (fun hg h1 => ?_)
  · refine seqE ?_
    exact leafE hown hg
  · refine seqE ?_
    refine seqE ?_
    refine brW hg (fun hg h2 => ?_) (fun hg h2 => ?_)
    · refine seqE ?_
      exact leafE hown hg
    · refine seqE ?_
      refine seqE ?_
      refine brW hg (fun hg h3 => ?_) (fun hg h3 => ?_)
      · refine seqE ?_
        exact leafE hown hg
      · refine seqE ?_
        refine seqE ?_
        refine brW hg (fun hg h4 => ?_) (fun hg h4 => ?_)
        · refine seqE ?_
          exact leafE hown hg
        · refine seqE ?_
          refine seqE ?_
          refine brE hg (fun hg h5 => ?_) (fun hg h5 => ?_)
          · refine seqE ?_
            exact leafE hown hg
          · refine seqE ?_
            refine seqE ?_
            refine .inl (⟨_, _, c_laws_eqAttrS p0.Attrs p1.Attrs, (FzAs.same _), ?_⟩)
            refine litE (m := 3) rfl ?_
            refine brE hg (fun hg h6 => ?_) (fun hg h6 => ?_)
            · refine seqE ?_
              exact leafE hown hg
            · refine seqE ?_
              exact leafE hown hg
theorem rf_laws_eqSpan (x : Span) : laws_eqSpan x x = true := by
  simp [laws_eqSpan, rf_laws_eqAttrS]
def laws_eqSpanS_b1 (p1 : (List Span)) (i1 : Nat) (s1 : Unit) (a1 : Span) : Step (Unit) Bool :=
  (bif (!(laws_eqSpan a1 (p1[i1]?.getD default))) then (.done false) else (.next ()))
def laws_eqSpanS (p0 : (List Span)) (p1 : (List Span)) : Bool :=
  (bif ((((p0).length : Nat) : Int) != (((p1).length : Nat) : Int)) then false else (Fin.get (fun s1 => true) (loopL (laws_eqSpanS_b1 p1) 0 () p0)))
theorem c_laws_eqSpanS (p0 : (List Span)) (p1 : (List Span)) : FnOk prog 29 [.one (.s false 6 (List.map (Span.cells false) p0)), .one (.s false 6 (List.map (Span.cells false) p1))] ⟨.one (.v (.bool (laws_eqSpanS p0 p1))), [], [], false⟩ := by
  refine FnOk.intro (E := env) envOk wide func29 rfl (by kernel_rfl) rfl rfl ?_
  have hg := laws_eqSpanS.eq_1 p0 p1
  have hown : ∀ g : Bool, AV.Own (AV.one (.v (.bool g))) := fun g => .v _
  refine seqE ?_
  refine seqE ?_
  refine seqE ?_
  refine lenM fun hN1 => ?_
  refine lenM fun hN2 => ?_
  refine brW hg (fun hg h3 => ?_) (fun hg h3 => ?_)
  · refine seqE ?_
    exact leafE hown hg
  · refine seqE ?_
    refine seqE ?_
    refine loopLE hg [0, 1] (fun x1 => [(5, .one (.v (.int .i64 ((x1.i : Nat) : Int))))]) (fun x1 => []) [] ?_ (fun x1 => ?_)
    · exact ⟨rfl, ⟨rfl, rfl, rfl, trivial⟩, trivial, trivial⟩
    refine seqE ?_
    refine seqE ?_
    refine lenM fun hN4 => ?_
    refine tstL (fun hi1 => ?_) (fun hi1 => ?_)
    · have hb1 := (x1.bdy hi1).trans (laws_eqSpanS_b1.eq_1 ..)
      have hw1 := wrap_succ hi1 (by first | assumption | omega)
      refine seqE ?_
      refine seqE ?_
      refine .inl ⟨by kernel_rfl, ?_⟩
      refine idxAt hi1 ?_
      refine idxOf (l := p1) (by (first | omega | (simp (disch := omega) only [wrap_small, mid_eq, List.length_map]; omega) | (simp; done) | (simp; omega) | (simp at *; omega) | (simp at *; done) | (simp_all; done) | (simp_all; omega))) (fun hq5 => ?_)
      refine ⟨_, _, c_laws_eqSpan (p0[x1.i]'hi1) (p1[x1.i]?.getD default), (FzAs.same _), ?_⟩
      refine brE hb1 (fun hb1 h6 => ?_) (fun hb1 h6 => x1.goE hi1 hb1 [] ⟨rfl, ⟨(eqInt hw1), rfl, rfl, trivial⟩, trivial, trivial⟩)
      refine seqE ?_
      have hg := donE hg (x1.outD hi1 hb1)
      exact leafE hown hg
    have hg := finE hg (x1.fin hi1)
    refine seqE ?_
    exact leafE hown hg
theorem rf_laws_eqSpanS (x : (List Span)) : laws_eqSpanS x x = true := eqS_ok (b := laws_eqSpanS_b1) rf_laws_eqSpan (fun _ _ _ _ => rfl) (fun _ _ => rfl) x
def laws_eqTrail (p0 : Trail) (p1 : Trail) : Bool :=
  (bif (p0.Id != p1.Id) then false else (bif (p0.Stamp != p1.Stamp) then false else (bif (p0.First != p1.First) then false else (bif (!(laws_eqSpanS p0.Spans p1.Spans)) then false else true))))
theorem c_laws_eqTrail (p0 : Trail) (p1 : Trail) : FnOk prog 113 [.agg ((Trail.cells false) p0), .agg ((Trail.cells false) p1)] ⟨.one (.v (.bool (laws_eqTrail p0 p1))), [], [], false⟩ := by
  refine FnOk.intro (E := env) envOk wide func113 rfl (by kernel_rfl) rfl rfl ?_
  have hg := laws_eqTrail.eq_1 p0 p1
  have hown : ∀ g : Bool, AV.Own (AV.one (.v (.bool g))) := fun g => .v _
  refine seqE ?_
  refine litE (m := 0) rfl ?_
  refine litE (m := 1) rfl ?_
  refine seqE ?_
  refine seqE ?_
  refine brW hg (fun hg h1 => ?_) (fun hg h1 => ?_)
  · refine seqE ?_
    exact leafE hown hg
  · refine seqE ?_
    refine seqE ?_
    refine brW hg (fun hg h2 => ?_) (fun hg h2 => ?_)
    · refine seqE ?_
      exact leafE hown hg
    · refine seqE ?_
      refine seqE ?_
      refine brW hg (fun hg h3 => ?_) (fun hg h3 => ?_)
      · refine seqE ?_
        exact leafE hown hg
      · refine seqE ?_
        refine seqE ?_
        refine .inl (⟨_, _, c_laws_eqSpanS p0.Spans p1.Spans, (FzAs.same _), ?_⟩)
        refine litE (m := 3) rfl ?_
        refine brE hg (fun hg h4 => ?_) (fun hg h4 => ?_)
        · refine seqE ?_
          exact leafE hown hg
        · refine seqE ?_
          exact leafE hown hg
theorem rf_laws_eqTrail (x : Trail) : laws_eqTrail x x = true := by
  simp [laws_eqTrail, rf_laws_eqSpanS]
def laws_eqTrailS_b1 (p1 : (List Trail)) (i1 : Nat) (s1 : Unit) (a1 : Trail) : Step (Unit) Bool :=
  (bif (!(laws_eqTrail a1 (p1[i1]?.getD default))) then (.done false) else (.next ()))
def laws_eqTrailS (p0 : (List Trail)) (p1 : (List Trail)) : Bool :=
  (bif ((((p0).length : Nat) : Int) != (((p1).length : Nat) : Int)) then false else (Fin.get (fun s1 => true) (loopL (laws_eqTrailS_b1 p1) 0 () p0)))
theorem c_laws_eqTrailS (p0 : (List Trail)) (p1 : (List Trail)) : FnOk prog 54 [.one (.s false 4 (List.map (Trail.cells false) p0)), .one (.s false 4 (List.map (Trail.cells false) p1))] ⟨.one (.v (.bool (laws_eqTrailS p0 p1))), [], [], false⟩ := by
  refine FnOk.intro (E := env) envOk wide func54 rfl (by kernel_rfl) rfl rfl ?_
  have hg := laws_eqTrailS.eq_1 p0 p1
  have hown : ∀ g : Bool, AV.Own (AV.one (.v (.bool g))) := fun g => .v _
  refine seqE ?_
  refine seqE ?_
  refine seqE ?_
  refine lenM fun hN1 => ?_
  refine lenM fun hN2 => ?_
  refine brW hg (fun hg h3 => ?_) (fun hg h3 => ?_)
  · refine seqE ?_
    exact leafE hown hg
  · refine seqE ?_
    refine seqE ?_
    refine loopLE hg [0, 1] (fun x1 => [(5, .one (.v (.int .i64 ((x1.i : Nat) : Int))))]) (fun x1 => []) [] ?_ (fun x1 => ?_)
    · exact ⟨rfl, ⟨rfl, rfl, rfl, trivial⟩, trivial, trivial⟩
    refine seqE ?_
    refine seqE ?_
    refine lenM fun hN4 => ?_
    refine tstL (fun hi1 => ?_) (fun hi1 => ?_)
    · have hb1 := (x1.bdy hi1).trans (laws_eqTrailS_b1.eq_1 ..)
      have hw1 := wrap_succ hi1 (by first | assumption | omega)
      refine seqE ?_
      refine seqE ?_
      refine .inl ⟨by kernel_rfl, ?_⟩
      refine idxAt hi1 ?_
      refine idxOf (l := p1) (by (first | omega | (simp (disch := omega) only [wrap_small, mid_eq, List.length_map]; omega) | (simp; done) | (simp; omega) | (simp at *; omega) | (simp at *; done) | (simp_all; done) | (simp_all; omega))) (fun hq5 => ?_)
      refine ⟨_, _, c_laws_eqTrail (p0[x1.i]'hi1) (p1[x1.i]?.getD default), (FzAs.same _), ?_⟩
      refine brE hb1 (fun hb1 h6 => ?_) (fun hb1 h6 => x1.goE hi1 hb1 [] ⟨rfl, ⟨(eqInt hw1), rfl, rfl, trivial⟩, trivial, trivial⟩)
      refine seqE ?_
      have hg := donE hg (x1.outD hi1 hb1)
      exact leafE hown hg
    have hg := finE hg (x1.fin hi1)
    refine seqE ?_
    exact leafE hown hg
theorem rf_laws_eqTrailS (x : (List Trail)) : laws_eqTrailS x x = true := eqS_ok (b := laws_eqTrailS_b1) rf_laws_eqTrail (fun _ _ _ _ => rfl) (fun _ _ => rfl) x
def laws_eqVerdict (p0 : Verdict) (p1 : Verdict) : Bool :=
  (bif (p0.Trace != p1.Trace) then false else (bif (p0.Stamp != p1.Stamp) then false else (bif (!(p0.Keep == p1.Keep)) then false else true)))
theorem c_laws_eqVerdict (p0 : Verdict) (p1 : Verdict) : FnOk prog 114 [.agg (Verdict.cells p0), .agg (Verdict.cells p1)] ⟨.one (.v (.bool (laws_eqVerdict p0 p1))), [], [], false⟩ := by
  refine FnOk.intro (E := env) envOk wide func114 rfl (by kernel_rfl) rfl rfl ?_
  have hg := laws_eqVerdict.eq_1 p0 p1
  have hown : ∀ g : Bool, AV.Own (AV.one (.v (.bool g))) := fun g => .v _
  refine seqE ?_
  refine litE (m := 0) rfl ?_
  refine litE (m := 1) rfl ?_
  refine seqE ?_
  refine seqE ?_
  refine brW hg (fun hg h1 => ?_) (fun hg h1 => ?_)
  · refine seqE ?_
    exact leafE hown hg
  · refine seqE ?_
    refine seqE ?_
    refine brW hg (fun hg h2 => ?_) (fun hg h2 => ?_)
    · refine seqE ?_
      exact leafE hown hg
    · refine seqE ?_
      refine seqE ?_
      refine brE hg (fun hg h3 => ?_) (fun hg h3 => ?_)
      · refine seqE ?_
        exact leafE hown hg
      · refine seqE ?_
        exact leafE hown hg
theorem rf_laws_eqVerdict (x : Verdict) : laws_eqVerdict x x = true := by
  simp [laws_eqVerdict]
def laws_eqVerdictS_b1 (p1 : (List Verdict)) (i1 : Nat) (s1 : Unit) (a1 : Verdict) : Step (Unit) Bool :=
  (bif (!(laws_eqVerdict a1 (p1[i1]?.getD default))) then (.done false) else (.next ()))
def laws_eqVerdictS (p0 : (List Verdict)) (p1 : (List Verdict)) : Bool :=
  (bif ((((p0).length : Nat) : Int) != (((p1).length : Nat) : Int)) then false else (Fin.get (fun s1 => true) (loopL (laws_eqVerdictS_b1 p1) 0 () p0)))
theorem c_laws_eqVerdictS (p0 : (List Verdict)) (p1 : (List Verdict)) : FnOk prog 55 [.one (.s false 3 (List.map Verdict.cells p0)), .one (.s false 3 (List.map Verdict.cells p1))] ⟨.one (.v (.bool (laws_eqVerdictS p0 p1))), [], [], false⟩ := by
  refine FnOk.intro (E := env) envOk wide func55 rfl (by kernel_rfl) rfl rfl ?_
  have hg := laws_eqVerdictS.eq_1 p0 p1
  have hown : ∀ g : Bool, AV.Own (AV.one (.v (.bool g))) := fun g => .v _
  refine seqE ?_
  refine seqE ?_
  refine seqE ?_
  refine lenM fun hN1 => ?_
  refine lenM fun hN2 => ?_
  refine brW hg (fun hg h3 => ?_) (fun hg h3 => ?_)
  · refine seqE ?_
    exact leafE hown hg
  · refine seqE ?_
    refine seqE ?_
    refine loopLE hg [0, 1] (fun x1 => [(5, .one (.v (.int .i64 ((x1.i : Nat) : Int))))]) (fun x1 => []) [] ?_ (fun x1 => ?_)
    · exact ⟨rfl, ⟨rfl, rfl, rfl, trivial⟩, trivial, trivial⟩
    refine seqE ?_
    refine seqE ?_
    refine lenM fun hN4 => ?_
    refine tstL (fun hi1 => ?_) (fun hi1 => ?_)
    · have hb1 := (x1.bdy hi1).trans (laws_eqVerdictS_b1.eq_1 ..)
      have hw1 := wrap_succ hi1 (by first | assumption | omega)
      refine seqE ?_
      refine seqE ?_
      refine .inl ⟨by kernel_rfl, ?_⟩
      refine idxAt hi1 ?_
      refine idxOf (l := p1) (by (first | omega | (simp (disch := omega) only [wrap_small, mid_eq, List.length_map]; omega) | (simp; done) | (simp; omega) | (simp at *; omega) | (simp at *; done) | (simp_all; done) | (simp_all; omega))) (fun hq5 => ?_)
      refine ⟨_, _, c_laws_eqVerdict (p0[x1.i]'hi1) (p1[x1.i]?.getD default), (FzAs.same _), ?_⟩
      refine brE hb1 (fun hb1 h6 => ?_) (fun hb1 h6 => x1.goE hi1 hb1 [] ⟨rfl, ⟨(eqInt hw1), rfl, rfl, trivial⟩, trivial, trivial⟩)
      refine seqE ?_
      have hg := donE hg (x1.outD hi1 hb1)
      exact leafE hown hg
    have hg := finE hg (x1.fin hi1)
    refine seqE ?_
    exact leafE hown hg
theorem rf_laws_eqVerdictS (x : (List Verdict)) : laws_eqVerdictS x x = true := eqS_ok (b := laws_eqVerdictS_b1) rf_laws_eqVerdict (fun _ _ _ _ => rfl) (fun _ _ => rfl) x
def laws_eqBucket (p0 : Bucket) (p1 : Bucket) : Bool :=
  (bif (p0.Rate != p1.Rate) then false else (bif (p0.Burst != p1.Burst) then false else (bif (p0.Tokens != p1.Tokens) then false else (bif (p0.At != p1.At) then false else true))))
theorem c_laws_eqBucket (p0 : Bucket) (p1 : Bucket) : FnOk prog 56 [.agg (Bucket.cells p0), .agg (Bucket.cells p1)] ⟨.one (.v (.bool (laws_eqBucket p0 p1))), [], [], false⟩ := by
  refine FnOk.intro (E := env) envOk wide func56 rfl (by kernel_rfl) rfl rfl ?_
  have hg := laws_eqBucket.eq_1 p0 p1
  have hown : ∀ g : Bool, AV.Own (AV.one (.v (.bool g))) := fun g => .v _
  refine seqE ?_
  refine litE (m := 0) rfl ?_
  refine litE (m := 1) rfl ?_
  refine seqE ?_
  refine seqE ?_
  refine brW hg (fun hg h1 => ?_) (fun hg h1 => ?_)
  · refine seqE ?_
    exact leafE hown hg
  · refine seqE ?_
    refine seqE ?_
    refine brW hg (fun hg h2 => ?_) (fun hg h2 => ?_)
    · refine seqE ?_
      exact leafE hown hg
    · refine seqE ?_
      refine seqE ?_
      refine brW hg (fun hg h3 => ?_) (fun hg h3 => ?_)
      · refine seqE ?_
        exact leafE hown hg
      · refine seqE ?_
        refine seqE ?_
        refine brW hg (fun hg h4 => ?_) (fun hg h4 => ?_)
        · refine seqE ?_
          exact leafE hown hg
        · refine seqE ?_
          exact leafE hown hg
theorem rf_laws_eqBucket (x : Bucket) : laws_eqBucket x x = true := by
  simp [laws_eqBucket]
def laws_eqModel (p0 : Model) (p1 : Model) : Bool :=
  (bif (!(laws_eqConf p0.C p1.C)) then false else (bif (!(p0.Shut == p1.Shut)) then false else (bif (!(laws_eqTrailS p0.Open p1.Open)) then false else (bif (!(laws_eqVerdictS p0.Cache p1.Cache)) then false else (bif (!(laws_eqBucket p0.B p1.B)) then false else (bif (p0.Used != p1.Used) then false else true))))))
theorem c_laws_eqModel (p0 : Model) (p1 : Model) : FnOk prog 20 [.agg ((Model.cells false) p0), .agg ((Model.cells false) p1)] ⟨.one (.v (.bool (laws_eqModel p0 p1))), [], [], false⟩ := by
  refine FnOk.intro (E := env) envOk wide func20 rfl (by kernel_rfl) rfl rfl ?_
  have hg := laws_eqModel.eq_1 p0 p1
  have hown : ∀ g : Bool, AV.Own (AV.one (.v (.bool g))) := fun g => .v _
  refine seqE ?_
  refine litE (m := 0) rfl ?_
  refine litE (m := 1) rfl ?_
  refine seqE ?_
  refine seqE ?_
  refine .inl (⟨_, _, c_laws_eqConf p0.C p1.C, (FzAs.same _), ?_⟩)
  refine litE (m := 3) rfl ?_
  refine brE hg (fun hg h1 => ?_) (fun hg h1 => ?_)
  · refine seqE ?_
    exact leafE hown hg
  · refine seqE ?_
    refine seqE ?_
    refine brE hg (fun hg h2 => ?_) (fun hg h2 => ?_)
    · refine seqE ?_
      exact leafE hown hg
    · refine seqE ?_
      refine seqE ?_
      refine .inl (⟨_, _, c_laws_eqTrailS p0.Open p1.Open, (FzAs.same _), ?_⟩)
      refine litE (m := 4) rfl ?_
      refine brE hg (fun hg h3 => ?_) (fun hg h3 => ?_)
      · refine seqE ?_
        exact leafE hown hg
      · refine seqE ?_
        refine seqE ?_
        refine .inl (⟨_, _, c_laws_eqVerdictS p0.Cache p1.Cache, (FzAs.same _), ?_⟩)
        refine litE (m := 5) rfl ?_
        refine brE hg (fun hg h4 => ?_) (fun hg h4 => ?_)
        · refine seqE ?_
          exact leafE hown hg
        · refine seqE ?_
          refine seqE ?_
          refine .inl (⟨_, _, c_laws_eqBucket p0.B p1.B, (FzAs.same _), ?_⟩)
          refine litE (m := 6) rfl ?_
          refine brE hg (fun hg h5 => ?_) (fun hg h5 => ?_)
          · refine seqE ?_
            exact leafE hown hg
          · refine seqE ?_
            refine seqE ?_
            refine brW hg (fun hg h6 => ?_) (fun hg h6 => ?_)
            · refine seqE ?_
              exact leafE hown hg
            · refine seqE ?_
              exact leafE hown hg
theorem rf_laws_eqModel (x : Model) : laws_eqModel x x = true := by
  simp [laws_eqModel, rf_laws_eqConf, rf_laws_eqTrailS, rf_laws_eqVerdictS, rf_laws_eqBucket]
def laws_markPolS_b1 (r0 : (((List Pol)) → (Int) → ((Int × (List Pol))))) (i1 : Nat) (s1 : (List Pol) × Int) (a1 : Pol) : Step ((List Pol) × Int) (Int × (List Pol)) :=
  (.next ((List.set s1.1 i1 (Pol.mk s1.2 (IntKind.i64.wrap (s1.2 + 1)) (laws_markText (IntKind.i64.wrap ((IntKind.i64.wrap (s1.2 + 1)) + 1))) (laws_markText (IntKind.i64.wrap ((IntKind.i64.wrap ((IntKind.i64.wrap (s1.2 + 1)) + 1)) + 1))) (r0 (s1.1[i1]?.getD default).L (IntKind.i64.wrap ((IntKind.i64.wrap ((IntKind.i64.wrap ((IntKind.i64.wrap (s1.2 + 1)) + 1)) + 1)) + 1))).2)), (r0 (s1.1[i1]?.getD default).L (IntKind.i64.wrap ((IntKind.i64.wrap ((IntKind.i64.wrap ((IntKind.i64.wrap (s1.2 + 1)) + 1)) + 1)) + 1))).1))
def laws_markPolSR : Nat → ((List Pol)) → (Int) → ((Int × (List Pol)))
  | 0, _, _ => default
  | n + 1, p0, p1 => (Fin.get (fun s1 => (s1.2, s1.1)) (loopL (laws_markPolS_b1 (laws_markPolSR n)) 0 (p0, p1) p0))
theorem cR_laws_markPolS : ∀ (n : Nat) (p0 : (List Pol)) (p1 : Int), Pol.depL p0 < n → FnOk prog 116 [.tup [.one (.s true 5 (List.map (Pol.cells true) p0))], .one (.v (.int .i64 p1))] ⟨.one (.v (.int .i64 (laws_markPolSR n p0 p1).1)), [.one (.s true 5 (List.map (Pol.cells true) ((laws_markPolSR n p0 p1).2)))], [], false⟩ := by
  intro n
  induction n with
  | zero => intro p0 p1 hd0; omega
  | succ n ih =>
    intro p0 p1 hd0
    refine FnOk.introM (E := env) envOk wide func116 rfl (by kernel_rfl) rfl ?_
    have hg : laws_markPolSR (n + 1) p0 p1 = _ := laws_markPolSR.eq_2 ..
    have hown : (∀ g : (Int × (List Pol)), AV.Own (AV.one (.v (.int .i64 g.1)))) ∧ (fun g : (Int × (List Pol)) => T.s true 5 (List.map (Pol.cells true) (g.2))) = _ := ⟨fun g => .v _, rfl⟩
    refine seqE ?_
    refine seqE ?_
    refine seqE ?_
    refine loopLI (fun (i : Nat) (s : List Pol × Int) => s.1.length = p0.length ∧ ∀ k, i ≤ k → s.1[k]? = p0[k]?) hg (⟨rfl, fun _ _ => rfl⟩) [0] (fun x1 => [(1, .one (.v (.int .i64 x1.s.2))), (5, .one (.v (.int .i64 ((x1.i : Nat) : Int))))]) (fun x1 => [.dead, .new ⟨5, false, List.map (Pol.cells true) x1.s.1, 0⟩]) [none, some 1] ?_ (fun x1 => ?_)
    · exact ⟨rfl, ⟨rfl, rfl, ⟨rfl, rfl, rfl, rfl, by (first | rfl | omega | (dsimp only; omega) | (simp; done) | (simp; omega) | (simp [LstSt.init, LstSt.step, LstInv.init, CntSt.init, CntSt.step, CntInv.init, WhlSt.init, WhlSt.step]; done) | (simp [LstSt.init, LstSt.step, LstInv.init, CntSt.init, CntSt.step, CntInv.init, WhlSt.init, WhlSt.step]; omega))⟩, trivial⟩, ⟨⟨rfl, rfl, rfl⟩, trivial⟩, ⟨⟨rfl, rfl, rfl, rfl, by (first | rfl | omega | (dsimp only; omega) | (simp; done) | (simp; omega) | (simp [LstSt.init, LstSt.step, LstInv.init, CntSt.init, CntSt.step, CntInv.init, WhlSt.init, WhlSt.step]; done) | (simp [LstSt.init, LstSt.step, LstInv.init, CntSt.init, CntSt.step, CntInv.init, WhlSt.init, WhlSt.step]; omega))⟩, trivial⟩⟩
    have hI1 := x1.hI
    try dsimp only at hI1
    refine seqE ?_
    refine seqE ?_
    refine lenE (k := (p0).length) (by simp) (fun hN1 => ?_)
    refine tstL (fun hi1 => ?_) (fun hi1 => ?_)
    · have hb1 := (x1.bdy hi1).trans (laws_markPolS_b1.eq_1 ..)
      have hw1 := wrap_succ hi1 (by first | assumption | omega)
      refine seqE ?_
      refine seqE ?_
      refine andE (by (first | omega | (simp (disch := omega) only [wrap_small, mid_eq, List.length_map]; omega) | (simp; done) | (simp; omega) | (simp at *; omega) | (simp at *; done) | (simp_all; done) | (simp_all; omega))) ?_
      refine rowsE (Y := List.map (Pol.cells true) (List.set x1.s.1 x1.i (Pol.mk x1.s.2 (x1.s.1[x1.i]?.getD default).N (x1.s.1[x1.i]?.getD default).Key (x1.s.1[x1.i]?.getD default).Text (x1.s.1[x1.i]?.getD default).L))) (by exact setMapE (by simp) (fun a ha => by first | rfl | (simp only [ha, Option.getD_some]; rfl) | (obtain ⟨_, rfl⟩ := List.getElem?_eq_some_iff.1 ha; rfl) | (simp only [Pol.cells_eq]; rfl) | (simp only [ha, Option.getD_some, Pol.cells_eq]; rfl))) ?_
      refine seqE ?_
      refine seqE ?_
      refine andE (by (first | omega | (simp (disch := omega) only [wrap_small, mid_eq, List.length_map]; omega) | (simp; done) | (simp; omega) | (simp at *; omega) | (simp at *; done) | (simp_all; done) | (simp_all; omega))) ?_
      refine rowsE (Y := List.map (Pol.cells true) (List.set x1.s.1 x1.i (Pol.mk x1.s.2 (IntKind.i64.wrap (x1.s.2 + 1)) (x1.s.1[x1.i]?.getD default).Key (x1.s.1[x1.i]?.getD default).Text (x1.s.1[x1.i]?.getD default).L))) (by exact setMapS (by simp) (by first | rfl | (simp only [ha, Option.getD_some]; rfl) | (obtain ⟨_, rfl⟩ := List.getElem?_eq_some_iff.1 ha; rfl) | (simp only [Pol.cells_eq]; rfl) | (simp only [ha, Option.getD_some, Pol.cells_eq]; rfl))) ?_
      refine seqE ?_
      refine seqE ?_
      refine .inl (⟨_, _, c_laws_markText (IntKind.i64.wrap ((IntKind.i64.wrap (x1.s.2 + 1)) + 1)), (FzAs.same _), ?_⟩)
      refine litE (m := 3) rfl ?_
      refine andE (by (first | omega | (simp (disch := omega) only [wrap_small, mid_eq, List.length_map]; omega) | (simp; done) | (simp; omega) | (simp at *; omega) | (simp at *; done) | (simp_all; done) | (simp_all; omega))) ?_
      refine rowsE (Y := List.map (Pol.cells true) (List.set x1.s.1 x1.i (Pol.mk x1.s.2 (IntKind.i64.wrap (x1.s.2 + 1)) (laws_markText (IntKind.i64.wrap ((IntKind.i64.wrap (x1.s.2 + 1)) + 1))) (x1.s.1[x1.i]?.getD default).Text (x1.s.1[x1.i]?.getD default).L))) (by exact setMapS (by simp) (by first | rfl | (simp only [ha, Option.getD_some]; rfl) | (obtain ⟨_, rfl⟩ := List.getElem?_eq_some_iff.1 ha; rfl) | (simp only [Pol.cells_eq]; rfl) | (simp only [ha, Option.getD_some, Pol.cells_eq]; rfl))) ?_
      refine seqE ?_
      refine seqE ?_
      refine .inl (⟨_, _, c_laws_markText (IntKind.i64.wrap ((IntKind.i64.wrap ((IntKind.i64.wrap (x1.s.2 + 1)) + 1)) + 1)), (FzAs.same _), ?_⟩)
      refine litE (m := 4) rfl ?_
      refine andE (by (first | omega | (simp (disch := omega) only [wrap_small, mid_eq, List.length_map]; omega) | (simp; done) | (simp; omega) | (simp at *; omega) | (simp at *; done) | (simp_all; done) | (simp_all; omega))) ?_
      refine rowsE (Y := List.map (Pol.cells true) (List.set x1.s.1 x1.i (Pol.mk x1.s.2 (IntKind.i64.wrap (x1.s.2 + 1)) (laws_markText (IntKind.i64.wrap ((IntKind.i64.wrap (x1.s.2 + 1)) + 1))) (laws_markText (IntKind.i64.wrap ((IntKind.i64.wrap ((IntKind.i64.wrap (x1.s.2 + 1)) + 1)) + 1))) (x1.s.1[x1.i]?.getD default).L))) (by exact setMapS (by simp) (by first | rfl | (simp only [ha, Option.getD_some]; rfl) | (obtain ⟨_, rfl⟩ := List.getElem?_eq_some_iff.1 ha; rfl) | (simp only [Pol.cells_eq]; rfl) | (simp only [ha, Option.getD_some, Pol.cells_eq]; rfl))) ?_
      refine seqE ?_
      refine andE (by (first | omega | (simp (disch := omega) only [wrap_small, mid_eq, List.length_map]; omega) | (simp; done) | (simp; omega) | (simp at *; omega) | (simp at *; done) | (simp_all; done) | (simp_all; omega))) ?_
      refine rowSetR (Pol.cells_eq true) (i := x1.i) (l := x1.s.1) (x := (Pol.mk x1.s.2 (IntKind.i64.wrap (x1.s.2 + 1)) (laws_markText (IntKind.i64.wrap ((IntKind.i64.wrap (x1.s.2 + 1)) + 1))) (laws_markText (IntKind.i64.wrap ((IntKind.i64.wrap ((IntKind.i64.wrap (x1.s.2 + 1)) + 1)) + 1))) (x1.s.1[x1.i]?.getD default).L)) (by first | rfl | exact Nat.zero_add _ | simp) (fun _ => ?_)
      refine .inr ⟨0, ?_⟩
      refine rowSetR (Pol.cells_eq true) (i := x1.i) (l := x1.s.1) (x := (Pol.mk x1.s.2 (IntKind.i64.wrap (x1.s.2 + 1)) (laws_markText (IntKind.i64.wrap ((IntKind.i64.wrap (x1.s.2 + 1)) + 1))) (laws_markText (IntKind.i64.wrap ((IntKind.i64.wrap ((IntKind.i64.wrap (x1.s.2 + 1)) + 1)) + 1))) (x1.s.1[x1.i]?.getD default).L)) (by first | rfl | exact Nat.zero_add _ | simp) (fun _ => ?_)
      refine ⟨_, _, _, ih (x1.s.1[x1.i]?.getD default).L (IntKind.i64.wrap ((IntKind.i64.wrap ((IntKind.i64.wrap ((IntKind.i64.wrap (x1.s.2 + 1)) + 1)) + 1)) + 1)) (by (have q := hI1.2 x1.i (Nat.le_refl _); rw [List.getElem?_eq_getElem hi1] at q; rw [q, Option.getD_some]; have q2 := Pol.depL_mem (List.getElem_mem hi1); have q3 := Pol.dep_L (p0[x1.i]'hi1); omega)), (FzAs.same _), .inl ?_⟩
      refine rowsE (Y := List.map (Pol.cells true) (List.set x1.s.1 x1.i (Pol.mk x1.s.2 (IntKind.i64.wrap (x1.s.2 + 1)) (laws_markText (IntKind.i64.wrap ((IntKind.i64.wrap (x1.s.2 + 1)) + 1))) (laws_markText (IntKind.i64.wrap ((IntKind.i64.wrap ((IntKind.i64.wrap (x1.s.2 + 1)) + 1)) + 1))) ((laws_markPolSR n) (x1.s.1[x1.i]?.getD default).L (IntKind.i64.wrap ((IntKind.i64.wrap ((IntKind.i64.wrap ((IntKind.i64.wrap (x1.s.2 + 1)) + 1)) + 1)) + 1))).2))) (by exact setMapS (by simp) (by first | rfl | (simp only [ha, Option.getD_some]; rfl) | (obtain ⟨_, rfl⟩ := List.getElem?_eq_some_iff.1 ha; rfl) | (simp only [Pol.cells_eq]; rfl) | (simp only [ha, Option.getD_some, Pol.cells_eq]; rfl))) ?_
      refine litE (m := 5) rfl ?_
      exact x1.goE hi1 hb1 (by refine ⟨by simpa using hI1.1, fun k hk => ?_⟩; simp only []; rw [List.getElem?_set_ne (by omega)]; exact hI1.2 k (by omega)) [none, some 1] ⟨rfl, ⟨rfl, (eqInt hw1), ⟨rfl, rfl, rfl, rfl, by (first | rfl | omega | (dsimp only; omega) | (simp; done) | (simp; omega) | (simp [LstSt.init, LstSt.step, LstInv.init, CntSt.init, CntSt.step, CntInv.init, WhlSt.init, WhlSt.step]; done) | (simp [LstSt.init, LstSt.step, LstInv.init, CntSt.init, CntSt.step, CntInv.init, WhlSt.init, WhlSt.step]; omega))⟩, trivial⟩, ⟨⟨rfl, rfl, rfl⟩, trivial⟩, ⟨⟨rfl, rfl, rfl, rfl, by (first | rfl | omega | (dsimp only; omega) | (simp; done) | (simp; omega) | (simp [LstSt.init, LstSt.step, LstInv.init, CntSt.init, CntSt.step, CntInv.init, WhlSt.init, WhlSt.step]; done) | (simp [LstSt.init, LstSt.step, LstInv.init, CntSt.init, CntSt.step, CntInv.init, WhlSt.init, WhlSt.step]; omega))⟩, trivial⟩⟩
    have hg := finE hg (x1.fin hi1)
    refine seqE ?_
    exact leafM hown hg
def laws_markPolS (p0 : (List Pol)) (p1 : Int) : (Int × (List Pol)) := laws_markPolSR (Pol.depL p0 + 1) p0 p1
theorem c_laws_markPolS (p0 : (List Pol)) (p1 : Int) : FnOk prog 116 [.tup [.one (.s true 5 (List.map (Pol.cells true) p0))], .one (.v (.int .i64 p1))] ⟨.one (.v (.int .i64 (laws_markPolS p0 p1).1)), [.one (.s true 5 (List.map (Pol.cells true) ((laws_markPolS p0 p1).2)))], [], false⟩ := cR_laws_markPolS _ p0 p1 (Nat.lt_succ_self _)
def laws_markPol (p0 : Pol) (p1 : Int) : (Int × Pol) :=
  ((laws_markPolS p0.L p1).1, (Pol.mk p0.Kind p0.N p0.Key p0.Text (laws_markPolS p0.L p1).2))
theorem c_laws_markPol (p0 : Pol) (p1 : Int) : FnOk prog 58 [.tup [.agg (Pol.opn true p0)], .one (.v (.int .i64 p1))] ⟨.one (.v (.int .i64 (laws_markPol p0 p1).1)), [.agg (Pol.opn true (laws_markPol p0 p1).2)], [], false⟩ := by
  refine FnOk.introG (E := env) envOk wide func58 rfl (by kernel_rfl) rfl ?_
  have hg := laws_markPol.eq_1 p0 p1
  have hown : (∀ g : (Int × Pol), AV.Own (AV.one (.v (.int .i64 g.1)))) ∧ (fun g : (Int × Pol) => (Pol.opn true g.2)) = _ := ⟨fun g => .v _, rfl⟩
  refine seqE ?_
  refine litE (m := 2) rfl ?_
  refine seqE ?_
  refine .inr ⟨0, _, _, _, c_laws_markPolS p0.L p1, (FzAs.same _), .inl ?_⟩
  refine litE (m := 4) rfl ?_
  refine seqE ?_
  exact leafG hown hg
def laws_markConf (p0 : Conf) (p1 : Int) : (Int × Conf) :=
  ((laws_markPol p0.Rule p1).1, (Conf.mk p0.Stripes p0.Wait p0.Budget p0.Cache p0.Queue p0.Rate p0.Burst (Pol.mk p0.Rule.Kind p0.Rule.N p0.Rule.Key p0.Rule.Text (laws_markPol p0.Rule p1).2.L)))
theorem c_laws_markConf (p0 : Conf) (p1 : Int) : FnOk prog 22 [.tup [.agg ((Conf.cells true) p0)], .one (.v (.int .i64 p1))] ⟨.one (.v (.int .i64 (laws_markConf p0 p1).1)), [.agg ((Conf.cells true) (laws_markConf p0 p1).2)], [], false⟩ := by
  refine FnOk.introG (E := env) envOk wide func22 rfl (by kernel_rfl) rfl ?_
  have hg := laws_markConf.eq_1 p0 p1
  have hown : (∀ g : (Int × Conf), AV.Own (AV.one (.v (.int .i64 g.1)))) ∧ (fun g : (Int × Conf) => ((Conf.cells true) g.2)) = _ := ⟨fun g => .v _, rfl⟩
  refine seqE ?_
  refine litE (m := 2) rfl ?_
  refine seqE ?_
  refine .inr ⟨0, _, _, _, c_laws_markPol p0.Rule p1, (FzAs.same _), ?_⟩
  refine litE (m := 4) rfl ?_
  refine seqE ?_
  exact leafG hown hg
def laws_markAttrS_b1 (i1 : Nat) (s1 : (List Attr) × Int) (a1 : Attr) : Step ((List Attr) × Int) (Int × (List Attr)) :=
  (.next ((List.set s1.1 i1 (Attr.mk (laws_markText s1.2) ((Int.tmod (IntKind.i64.wrap (s1.2 + 1)) 3) == 0) (IntKind.i64.wrap ((IntKind.i64.wrap (s1.2 + 1)) + 1)) (laws_markText (IntKind.i64.wrap ((IntKind.i64.wrap ((IntKind.i64.wrap (s1.2 + 1)) + 1)) + 1))))), (IntKind.i64.wrap ((IntKind.i64.wrap ((IntKind.i64.wrap ((IntKind.i64.wrap (s1.2 + 1)) + 1)) + 1)) + 1))))
def laws_markAttrS (p0 : (List Attr)) (p1 : Int) : (Int × (List Attr)) :=
  (Fin.get (fun s1 => (s1.2, s1.1)) (loopL laws_markAttrS_b1 0 (p0, p1) p0))
theorem c_laws_markAttrS (p0 : (List Attr)) (p1 : Int) : FnOk prog 45 [.tup [.one (.s true 4 (List.map Attr.cells p0))], .one (.v (.int .i64 p1))] ⟨.one (.v (.int .i64 (laws_markAttrS p0 p1).1)), [.one (.s true 4 (List.map Attr.cells ((laws_markAttrS p0 p1).2)))], [], false⟩ := by
  refine FnOk.introM (E := env) envOk wide func45 rfl (by kernel_rfl) rfl ?_
  have hg := laws_markAttrS.eq_1 p0 p1
  have hown : (∀ g : (Int × (List Attr)), AV.Own (AV.one (.v (.int .i64 g.1)))) ∧ (fun g : (Int × (List Attr)) => T.s true 4 (List.map Attr.cells (g.2))) = _ := ⟨fun g => .v _, rfl⟩
  refine seqE ?_
  refine seqE ?_
  refine seqE ?_
  refine loopLI (fun _ s => (s.1).length = (p0).length) hg (by simp) [0] (fun x1 => [(1, .one (.v (.int .i64 x1.s.2))), (5, .one (.v (.int .i64 ((x1.i : Nat) : Int))))]) (fun x1 => [.dead, .new ⟨4, false, List.map Attr.cells x1.s.1, 0⟩]) [none, some 1] ?_ (fun x1 => ?_)
  · exact ⟨rfl, ⟨rfl, rfl, ⟨rfl, rfl, rfl, rfl, by (first | rfl | omega | (dsimp only; omega) | (simp; done) | (simp; omega) | (simp [LstSt.init, LstSt.step, LstInv.init, CntSt.init, CntSt.step, CntInv.init, WhlSt.init, WhlSt.step]; done) | (simp [LstSt.init, LstSt.step, LstInv.init, CntSt.init, CntSt.step, CntInv.init, WhlSt.init, WhlSt.step]; omega))⟩, trivial⟩, ⟨⟨rfl, rfl, rfl⟩, trivial⟩, ⟨⟨rfl, rfl, rfl, rfl, by (first | rfl | omega | (dsimp only; omega) | (simp; done) | (simp; omega) | (simp [LstSt.init, LstSt.step, LstInv.init, CntSt.init, CntSt.step, CntInv.init, WhlSt.init, WhlSt.step]; done) | (simp [LstSt.init, LstSt.step, LstInv.init, CntSt.init, CntSt.step, CntInv.init, WhlSt.init, WhlSt.step]; omega))⟩, trivial⟩⟩
  have hI1 : (x1.s.1).length = (p0).length := by simpa using x1.hI
  refine seqE ?_
  refine seqE ?_
  refine lenE (k := (p0).length) (by simp) (fun hN1 => ?_)
  refine tstL (fun hi1 => ?_) (fun hi1 => ?_)
  · have hb1 := (x1.bdy hi1).trans (laws_markAttrS_b1.eq_1 ..)
    have hw1 := wrap_succ hi1 (by first | assumption | omega)
    refine seqE ?_
    refine seqE ?_
    refine .inl (⟨_, _, c_laws_markText x1.s.2, (FzAs.same _), ?_⟩)
    refine litE (m := 3) rfl ?_
    refine andE (by (first | omega | (simp (disch := omega) only [wrap_small, mid_eq, List.length_map]; omega) | (simp; done) | (simp; omega) | (simp at *; omega) | (simp at *; done) | (simp_all; done) | (simp_all; omega))) ?_
    refine rowsE (Y := List.map Attr.cells (List.set x1.s.1 x1.i (Attr.mk (laws_markText x1.s.2) (x1.s.1[x1.i]?.getD default).Num (x1.s.1[x1.i]?.getD default).N (x1.s.1[x1.i]?.getD default).Text))) (by exact setMapE (by simp) (fun a ha => by first | rfl | (simp only [ha, Option.getD_some]; rfl) | (obtain ⟨_, rfl⟩ := List.getElem?_eq_some_iff.1 ha; rfl) | (simp only [Pol.cells_eq]; rfl) | (simp only [ha, Option.getD_some, Pol.cells_eq]; rfl))) ?_
    refine seqE ?_
    refine seqE ?_
    refine andE (by (first | omega | (simp (disch := omega) only [wrap_small, mid_eq, List.length_map]; omega) | (simp; done) | (simp; omega) | (simp at *; omega) | (simp at *; done) | (simp_all; done) | (simp_all; omega))) ?_
    refine andE (by (first | omega | (simp (disch := omega) only [wrap_small, mid_eq, List.length_map]; omega) | (simp; done) | (simp; omega) | (simp at *; omega) | (simp at *; done) | (simp_all; done) | (simp_all; omega))) ?_
    refine rowsE (Y := List.map Attr.cells (List.set x1.s.1 x1.i (Attr.mk (laws_markText x1.s.2) ((Int.tmod (IntKind.i64.wrap (x1.s.2 + 1)) 3) == 0) (x1.s.1[x1.i]?.getD default).N (x1.s.1[x1.i]?.getD default).Text))) (by exact setMapS (by simp) (by first | rfl | (simp only [ha, Option.getD_some]; rfl) | (obtain ⟨_, rfl⟩ := List.getElem?_eq_some_iff.1 ha; rfl) | (simp only [Pol.cells_eq]; rfl) | (simp only [ha, Option.getD_some, Pol.cells_eq]; rfl))) ?_
    refine seqE ?_
    refine seqE ?_
    refine andE (by (first | omega | (simp (disch := omega) only [wrap_small, mid_eq, List.length_map]; omega) | (simp; done) | (simp; omega) | (simp at *; omega) | (simp at *; done) | (simp_all; done) | (simp_all; omega))) ?_
    refine rowsE (Y := List.map Attr.cells (List.set x1.s.1 x1.i (Attr.mk (laws_markText x1.s.2) ((Int.tmod (IntKind.i64.wrap (x1.s.2 + 1)) 3) == 0) (IntKind.i64.wrap ((IntKind.i64.wrap (x1.s.2 + 1)) + 1)) (x1.s.1[x1.i]?.getD default).Text))) (by exact setMapS (by simp) (by first | rfl | (simp only [ha, Option.getD_some]; rfl) | (obtain ⟨_, rfl⟩ := List.getElem?_eq_some_iff.1 ha; rfl) | (simp only [Pol.cells_eq]; rfl) | (simp only [ha, Option.getD_some, Pol.cells_eq]; rfl))) ?_
    refine seqE ?_
    refine seqE ?_
    refine .inl (⟨_, _, c_laws_markText (IntKind.i64.wrap ((IntKind.i64.wrap ((IntKind.i64.wrap (x1.s.2 + 1)) + 1)) + 1)), (FzAs.same _), ?_⟩)
    refine litE (m := 4) rfl ?_
    refine andE (by (first | omega | (simp (disch := omega) only [wrap_small, mid_eq, List.length_map]; omega) | (simp; done) | (simp; omega) | (simp at *; omega) | (simp at *; done) | (simp_all; done) | (simp_all; omega))) ?_
    refine rowsE (Y := List.map Attr.cells (List.set x1.s.1 x1.i (Attr.mk (laws_markText x1.s.2) ((Int.tmod (IntKind.i64.wrap (x1.s.2 + 1)) 3) == 0) (IntKind.i64.wrap ((IntKind.i64.wrap (x1.s.2 + 1)) + 1)) (laws_markText (IntKind.i64.wrap ((IntKind.i64.wrap ((IntKind.i64.wrap (x1.s.2 + 1)) + 1)) + 1)))))) (by exact setMapS (by simp) (by first | rfl | (simp only [ha, Option.getD_some]; rfl) | (obtain ⟨_, rfl⟩ := List.getElem?_eq_some_iff.1 ha; rfl) | (simp only [Pol.cells_eq]; rfl) | (simp only [ha, Option.getD_some, Pol.cells_eq]; rfl))) ?_
    exact x1.goE hi1 hb1 (by simpa using x1.hI) [none, some 1] ⟨rfl, ⟨rfl, (eqInt hw1), ⟨rfl, rfl, rfl, rfl, by (first | rfl | omega | (dsimp only; omega) | (simp; done) | (simp; omega) | (simp [LstSt.init, LstSt.step, LstInv.init, CntSt.init, CntSt.step, CntInv.init, WhlSt.init, WhlSt.step]; done) | (simp [LstSt.init, LstSt.step, LstInv.init, CntSt.init, CntSt.step, CntInv.init, WhlSt.init, WhlSt.step]; omega))⟩, trivial⟩, ⟨⟨rfl, rfl, rfl⟩, trivial⟩, ⟨⟨rfl, rfl, rfl, rfl, by (first | rfl | omega | (dsimp only; omega) | (simp; done) | (simp; omega) | (simp [LstSt.init, LstSt.step, LstInv.init, CntSt.init, CntSt.step, CntInv.init, WhlSt.init, WhlSt.step]; done) | (simp [LstSt.init, LstSt.step, LstInv.init, CntSt.init, CntSt.step, CntInv.init, WhlSt.init, WhlSt.step]; omega))⟩, trivial⟩⟩
  have hg := finE hg (x1.fin hi1)
  refine seqE ?_
  exact leafM hown hg
def laws_markSpanS_b1 (i1 : Nat) (s1 : (List Span) × Int) (a1 : Span) : Step ((List Span) × Int) (Int × (List Span)) :=
  (.next ((List.set s1.1 i1 (Span.mk s1.2 (IntKind.i64.wrap (s1.2 + 1)) (IntKind.i64.wrap ((IntKind.i64.wrap (s1.2 + 1)) + 1)) (IntKind.i64.wrap ((IntKind.i64.wrap ((IntKind.i64.wrap (s1.2 + 1)) + 1)) + 1)) ((Int.tmod (IntKind.i64.wrap ((IntKind.i64.wrap ((IntKind.i64.wrap ((IntKind.i64.wrap (s1.2 + 1)) + 1)) + 1)) + 1)) 3) == 0) (laws_markAttrS (s1.1[i1]?.getD default).Attrs (IntKind.i64.wrap ((IntKind.i64.wrap ((IntKind.i64.wrap ((IntKind.i64.wrap ((IntKind.i64.wrap (s1.2 + 1)) + 1)) + 1)) + 1)) + 1))).2)), (laws_markAttrS (s1.1[i1]?.getD default).Attrs (IntKind.i64.wrap ((IntKind.i64.wrap ((IntKind.i64.wrap ((IntKind.i64.wrap ((IntKind.i64.wrap (s1.2 + 1)) + 1)) + 1)) + 1)) + 1))).1))
def laws_markSpanS (p0 : (List Span)) (p1 : Int) : (Int × (List Span)) :=
  (Fin.get (fun s1 => (s1.2, s1.1)) (loopL laws_markSpanS_b1 0 (p0, p1) p0))
theorem c_laws_markSpanS (p0 : (List Span)) (p1 : Int) : FnOk prog 32 [.tup [.one (.s true 6 (List.map (Span.cells true) p0))], .one (.v (.int .i64 p1))] ⟨.one (.v (.int .i64 (laws_markSpanS p0 p1).1)), [.one (.s true 6 (List.map (Span.cells true) ((laws_markSpanS p0 p1).2)))], [], false⟩ := by
  refine FnOk.introM (E := env) envOk wide func32 rfl (by kernel_rfl) rfl ?_
  have hg := laws_markSpanS.eq_1 p0 p1
  have hown : (∀ g : (Int × (List Span)), AV.Own (AV.one (.v (.int .i64 g.1)))) ∧ (fun g : (Int × (List Span)) => T.s true 6 (List.map (Span.cells true) (g.2))) = _ := ⟨fun g => .v _, rfl⟩
  refine seqE ?_
  refine seqE ?_
  refine seqE ?_
  refine loopLI (fun _ s => (s.1).length = (p0).length) hg (by simp) [0] (fun x1 => [(1, .one (.v (.int .i64 x1.s.2))), (5, .one (.v (.int .i64 ((x1.i : Nat) : Int))))]) (fun x1 => [.dead, .new ⟨6, false, List.map (Span.cells true) x1.s.1, 0⟩]) [none, some 1] ?_ (fun x1 => ?_)
  · exact ⟨rfl, ⟨rfl, rfl, ⟨rfl, rfl, rfl, rfl, by (first | rfl | omega | (dsimp only; omega) | (simp; done) | (simp; omega) | (simp [LstSt.init, LstSt.step, LstInv.init, CntSt.init, CntSt.step, CntInv.init, WhlSt.init, WhlSt.step]; done) | (simp [LstSt.init, LstSt.step, LstInv.init, CntSt.init, CntSt.step, CntInv.init, WhlSt.init, WhlSt.step]; omega))⟩, trivial⟩, ⟨⟨rfl, rfl, rfl⟩, trivial⟩, ⟨⟨rfl, rfl, rfl, rfl, by (first | rfl | omega | (dsimp only; omega) | (simp; done) | (simp; omega) | (simp [LstSt.init, LstSt.step, LstInv.init, CntSt.init, CntSt.step, CntInv.init, WhlSt.init, WhlSt.step]; done) | (simp [LstSt.init, LstSt.step, LstInv.init, CntSt.init, CntSt.step, CntInv.init, WhlSt.init, WhlSt.step]; omega))⟩, trivial⟩⟩
  have hI1 : (x1.s.1).length = (p0).length := by simpa using x1.hI
  refine seqE ?_
  refine seqE ?_
  refine lenE (k := (p0).length) (by simp) (fun hN1 => ?_)
  refine tstL (fun hi1 => ?_) (fun hi1 => ?_)
  · have hb1 := (x1.bdy hi1).trans (laws_markSpanS_b1.eq_1 ..)
    have hw1 := wrap_succ hi1 (by first | assumption | omega)
    refine seqE ?_
    refine seqE ?_
    refine andE (by (first | omega | (simp (disch := omega) only [wrap_small, mid_eq, List.length_map]; omega) | (simp; done) | (simp; omega) | (simp at *; omega) | (simp at *; done) | (simp_all; done) | (simp_all; omega))) ?_
    refine rowsE (Y := List.map (Span.cells true) (List.set x1.s.1 x1.i (Span.mk x1.s.2 (x1.s.1[x1.i]?.getD default).Id (x1.s.1[x1.i]?.getD default).Start (x1.s.1[x1.i]?.getD default).End (x1.s.1[x1.i]?.getD default).Err (x1.s.1[x1.i]?.getD default).Attrs))) (by exact setMapE (by simp) (fun a ha => by first | rfl | (simp only [ha, Option.getD_some]; rfl) | (obtain ⟨_, rfl⟩ := List.getElem?_eq_some_iff.1 ha; rfl) | (simp only [Pol.cells_eq]; rfl) | (simp only [ha, Option.getD_some, Pol.cells_eq]; rfl))) ?_
    refine seqE ?_
    refine seqE ?_
    refine andE (by (first | omega | (simp (disch := omega) only [wrap_small, mid_eq, List.length_map]; omega) | (simp; done) | (simp; omega) | (simp at *; omega) | (simp at *; done) | (simp_all; done) | (simp_all; omega))) ?_
    refine rowsE (Y := List.map (Span.cells true) (List.set x1.s.1 x1.i (Span.mk x1.s.2 (IntKind.i64.wrap (x1.s.2 + 1)) (x1.s.1[x1.i]?.getD default).Start (x1.s.1[x1.i]?.getD default).End (x1.s.1[x1.i]?.getD default).Err (x1.s.1[x1.i]?.getD default).Attrs))) (by exact setMapS (by simp) (by first | rfl | (simp only [ha, Option.getD_some]; rfl) | (obtain ⟨_, rfl⟩ := List.getElem?_eq_some_iff.1 ha; rfl) | (simp only [Pol.cells_eq]; rfl) | (simp only [ha, Option.getD_some, Pol.cells_eq]; rfl))) ?_
    refine seqE ?_
    refine seqE ?_
    refine andE (by (first | omega | (simp (disch := omega) only [wrap_small, mid_eq, List.length_map]; omega) | (simp; done) | (simp; omega) | (simp at *; omega) | (simp at *; done) | (simp_all; done) | (simp_all; omega))) ?_
    refine rowsE (Y := List.map (Span.cells true) (List.set x1.s.1 x1.i (Span.mk x1.s.2 (IntKind.i64.wrap (x1.s.2 + 1)) (IntKind.i64.wrap ((IntKind.i64.wrap (x1.s.2 + 1)) + 1)) (x1.s.1[x1.i]?.getD default).End (x1.s.1[x1.i]?.getD default).Err (x1.s.1[x1.i]?.getD default).Attrs))) (by exact setMapS (by simp) (by first | rfl | (simp only [ha, Option.getD_some]; rfl) | (obtain ⟨_, rfl⟩ := List.getElem?_eq_some_iff.1 ha; rfl) | (simp only [Pol.cells_eq]; rfl) | (simp only [ha, Option.getD_some, Pol.cells_eq]; rfl))) ?_
    refine seqE ?_
    refine seqE ?_
    refine andE (by (first | omega | (simp (disch := omega) only [wrap_small, mid_eq, List.length_map]; omega) | (simp; done) | (simp; omega) | (simp at *; omega) | (simp at *; done) | (simp_all; done) | (simp_all; omega))) ?_
    refine rowsE (Y := List.map (Span.cells true) (List.set x1.s.1 x1.i (Span.mk x1.s.2 (IntKind.i64.wrap (x1.s.2 + 1)) (IntKind.i64.wrap ((IntKind.i64.wrap (x1.s.2 + 1)) + 1)) (IntKind.i64.wrap ((IntKind.i64.wrap ((IntKind.i64.wrap (x1.s.2 + 1)) + 1)) + 1)) (x1.s.1[x1.i]?.getD default).Err (x1.s.1[x1.i]?.getD default).Attrs))) (by exact setMapS (by simp) (by first | rfl | (simp only [ha, Option.getD_some]; rfl) | (obtain ⟨_, rfl⟩ := List.getElem?_eq_some_iff.1 ha; rfl) | (simp only [Pol.cells_eq]; rfl) | (simp only [ha, Option.getD_some, Pol.cells_eq]; rfl))) ?_
    refine seqE ?_
    refine seqE ?_
    refine andE (by (first | omega | (simp (disch := omega) only [wrap_small, mid_eq, List.length_map]; omega) | (simp; done) | (simp; omega) | (simp at *; omega) | (simp at *; done) | (simp_all; done) | (simp_all; omega))) ?_
    refine andE (by (first | omega | (simp (disch := omega) only [wrap_small, mid_eq, List.length_map]; omega) | (simp; done) | (simp; omega) | (simp at *; omega) | (simp at *; done) | (simp_all; done) | (simp_all; omega))) ?_
    refine rowsE (Y := List.map (Span.cells true) (List.set x1.s.1 x1.i (Span.mk x1.s.2 (IntKind.i64.wrap (x1.s.2 + 1)) (IntKind.i64.wrap ((IntKind.i64.wrap (x1.s.2 + 1)) + 1)) (IntKind.i64.wrap ((IntKind.i64.wrap ((IntKind.i64.wrap (x1.s.2 + 1)) + 1)) + 1)) ((Int.tmod (IntKind.i64.wrap ((IntKind.i64.wrap ((IntKind.i64.wrap ((IntKind.i64.wrap (x1.s.2 + 1)) + 1)) + 1)) + 1)) 3) == 0) (x1.s.1[x1.i]?.getD default).Attrs))) (by exact setMapS (by simp) (by first | rfl | (simp only [ha, Option.getD_some]; rfl) | (obtain ⟨_, rfl⟩ := List.getElem?_eq_some_iff.1 ha; rfl) | (simp only [Pol.cells_eq]; rfl) | (simp only [ha, Option.getD_some, Pol.cells_eq]; rfl))) ?_
    refine seqE ?_
    refine andE (by (first | omega | (simp (disch := omega) only [wrap_small, mid_eq, List.length_map]; omega) | (simp; done) | (simp; omega) | (simp at *; omega) | (simp at *; done) | (simp_all; done) | (simp_all; omega))) ?_
    refine rowSetE (i := x1.i) (l := x1.s.1) (x := (Span.mk x1.s.2 (IntKind.i64.wrap (x1.s.2 + 1)) (IntKind.i64.wrap ((IntKind.i64.wrap (x1.s.2 + 1)) + 1)) (IntKind.i64.wrap ((IntKind.i64.wrap ((IntKind.i64.wrap (x1.s.2 + 1)) + 1)) + 1)) ((Int.tmod (IntKind.i64.wrap ((IntKind.i64.wrap ((IntKind.i64.wrap ((IntKind.i64.wrap (x1.s.2 + 1)) + 1)) + 1)) + 1)) 3) == 0) (x1.s.1[x1.i]?.getD default).Attrs)) (by first | rfl | exact Nat.zero_add _ | simp) (fun _ => ?_)
    refine .inr ⟨0, ?_⟩
    refine rowSetE (i := x1.i) (l := x1.s.1) (x := (Span.mk x1.s.2 (IntKind.i64.wrap (x1.s.2 + 1)) (IntKind.i64.wrap ((IntKind.i64.wrap (x1.s.2 + 1)) + 1)) (IntKind.i64.wrap ((IntKind.i64.wrap ((IntKind.i64.wrap (x1.s.2 + 1)) + 1)) + 1)) ((Int.tmod (IntKind.i64.wrap ((IntKind.i64.wrap ((IntKind.i64.wrap ((IntKind.i64.wrap (x1.s.2 + 1)) + 1)) + 1)) + 1)) 3) == 0) (x1.s.1[x1.i]?.getD default).Attrs)) (by first | rfl | exact Nat.zero_add _ | simp) (fun _ => ?_)
    refine ⟨_, _, _, c_laws_markAttrS (x1.s.1[x1.i]?.getD default).Attrs (IntKind.i64.wrap ((IntKind.i64.wrap ((IntKind.i64.wrap ((IntKind.i64.wrap ((IntKind.i64.wrap (x1.s.2 + 1)) + 1)) + 1)) + 1)) + 1)), (FzAs.same _), .inl ?_⟩
    refine rowsE (Y := List.map (Span.cells true) (List.set x1.s.1 x1.i (Span.mk x1.s.2 (IntKind.i64.wrap (x1.s.2 + 1)) (IntKind.i64.wrap ((IntKind.i64.wrap (x1.s.2 + 1)) + 1)) (IntKind.i64.wrap ((IntKind.i64.wrap ((IntKind.i64.wrap (x1.s.2 + 1)) + 1)) + 1)) ((Int.tmod (IntKind.i64.wrap ((IntKind.i64.wrap ((IntKind.i64.wrap ((IntKind.i64.wrap (x1.s.2 + 1)) + 1)) + 1)) + 1)) 3) == 0) (laws_markAttrS (x1.s.1[x1.i]?.getD default).Attrs (IntKind.i64.wrap ((IntKind.i64.wrap ((IntKind.i64.wrap ((IntKind.i64.wrap ((IntKind.i64.wrap (x1.s.2 + 1)) + 1)) + 1)) + 1)) + 1))).2))) (by exact setMapS (by simp) (by first | rfl | (simp only [ha, Option.getD_some]; rfl) | (obtain ⟨_, rfl⟩ := List.getElem?_eq_some_iff.1 ha; rfl) | (simp only [Pol.cells_eq]; rfl) | (simp only [ha, Option.getD_some, Pol.cells_eq]; rfl))) ?_
    refine litE (m := 3) rfl ?_
    exact x1.goE hi1 hb1 (by simpa using x1.hI) [none, some 1] ⟨rfl, ⟨rfl, (eqInt hw1), ⟨rfl, rfl, rfl, rfl, by (first | rfl | omega | (dsimp only; omega) | (simp; done) | (simp; omega) | (simp [LstSt.init, LstSt.step, LstInv.init, CntSt.init, CntSt.step, CntInv.init, WhlSt.init, WhlSt.step]; done) | (simp [LstSt.init, LstSt.step, LstInv.init, CntSt.init, CntSt.step, CntInv.init, WhlSt.init, WhlSt.step]; omega))⟩, trivial⟩, ⟨⟨rfl, rfl, rfl⟩, trivial⟩, ⟨⟨rfl, rfl, rfl, rfl, by (first | rfl | omega | (dsimp only; omega) | (simp; done) | (simp; omega) | (simp [LstSt.init, LstSt.step, LstInv.init, CntSt.init, CntSt.step, CntInv.init, WhlSt.init, WhlSt.step]; done) | (simp [LstSt.init, LstSt.step, LstInv.init, CntSt.init, CntSt.step, CntInv.init, WhlSt.init, WhlSt.step]; omega))⟩, trivial⟩⟩
  have hg := finE hg (x1.fin hi1)
  refine seqE ?_
  exact leafM hown hg
def laws_markTrailS_b1 (i1 : Nat) (s1 : (List Trail) × Int) (a1 : Trail) : Step ((List Trail) × Int) (Int × (List Trail)) :=
  (.next ((List.set s1.1 i1 (Trail.mk s1.2 (IntKind.i64.wrap (s1.2 + 1)) (IntKind.i64.wrap ((IntKind.i64.wrap (s1.2 + 1)) + 1)) (laws_markSpanS (s1.1[i1]?.getD default).Spans (IntKind.i64.wrap ((IntKind.i64.wrap ((IntKind.i64.wrap (s1.2 + 1)) + 1)) + 1))).2)), (laws_markSpanS (s1.1[i1]?.getD default).Spans (IntKind.i64.wrap ((IntKind.i64.wrap ((IntKind.i64.wrap (s1.2 + 1)) + 1)) + 1))).1))
def laws_markTrailS (p0 : (List Trail)) (p1 : Int) : (Int × (List Trail)) :=
  (Fin.get (fun s1 => (s1.2, s1.1)) (loopL laws_markTrailS_b1 0 (p0, p1) p0))
theorem c_laws_markTrailS (p0 : (List Trail)) (p1 : Int) : FnOk prog 59 [.tup [.one (.s true 4 (List.map (Trail.cells true) p0))], .one (.v (.int .i64 p1))] ⟨.one (.v (.int .i64 (laws_markTrailS p0 p1).1)), [.one (.s true 4 (List.map (Trail.cells true) ((laws_markTrailS p0 p1).2)))], [], false⟩ := by
  refine FnOk.introM (E := env) envOk wide func59 rfl (by kernel_rfl) rfl ?_
  have hg := laws_markTrailS.eq_1 p0 p1
  have hown : (∀ g : (Int × (List Trail)), AV.Own (AV.one (.v (.int .i64 g.1)))) ∧ (fun g : (Int × (List Trail)) => T.s true 4 (List.map (Trail.cells true) (g.2))) = _ := ⟨fun g => .v _, rfl⟩
  refine seqE ?_
  refine seqE ?_
  refine seqE ?_
  refine loopLI (fun _ s => (s.1).length = (p0).length) hg (by simp) [0] (fun x1 => [(1, .one (.v (.int .i64 x1.s.2))), (5, .one (.v (.int .i64 ((x1.i : Nat) : Int))))]) (fun x1 => [.dead, .new ⟨4, false, List.map (Trail.cells true) x1.s.1, 0⟩]) [none, some 1] ?_ (fun x1 => ?_)
  · exact ⟨rfl, ⟨rfl, rfl, ⟨rfl, rfl, rfl, rfl, by (first | rfl | omega | (dsimp only; omega) | (simp; done) | (simp; omega) | (simp [LstSt.init, LstSt.step, LstInv.init, CntSt.init, CntSt.step, CntInv.init, WhlSt.init, WhlSt.step]; done) | (simp [LstSt.init, LstSt.step, LstInv.init, CntSt.init, CntSt.step, CntInv.init, WhlSt.init, WhlSt.step]; omega))⟩, trivial⟩, ⟨⟨rfl, rfl, rfl⟩, trivial⟩, ⟨⟨rfl, rfl, rfl, rfl, by (first | rfl | omega | (dsimp only; omega) | (simp; done) | (simp; omega) | (simp [LstSt.init, LstSt.step, LstInv.init, CntSt.init, CntSt.step, CntInv.init, WhlSt.init, WhlSt.step]; done) | (simp [LstSt.init, LstSt.step, LstInv.init, CntSt.init, CntSt.step, CntInv.init, WhlSt.init, WhlSt.step]; omega))⟩, trivial⟩⟩
  have hI1 : (x1.s.1).length = (p0).length := by simpa using x1.hI
  refine seqE ?_
  refine seqE ?_
  refine lenE (k := (p0).length) (by simp) (fun hN1 => ?_)
  refine tstL (fun hi1 => ?_) (fun hi1 => ?_)
  · have hb1 := (x1.bdy hi1).trans (laws_markTrailS_b1.eq_1 ..)
    have hw1 := wrap_succ hi1 (by first | assumption | omega)
    refine seqE ?_
    refine seqE ?_
    refine andE (by (first | omega | (simp (disch := omega) only [wrap_small, mid_eq, List.length_map]; omega) | (simp; done) | (simp; omega) | (simp at *; omega) | (simp at *; done) | (simp_all; done) | (simp_all; omega))) ?_
    refine rowsE (Y := List.map (Trail.cells true) (List.set x1.s.1 x1.i (Trail.mk x1.s.2 (x1.s.1[x1.i]?.getD default).Stamp (x1.s.1[x1.i]?.getD default).First (x1.s.1[x1.i]?.getD default).Spans))) (by exact setMapE (by simp) (fun a ha => by first | rfl | (simp only [ha, Option.getD_some]; rfl) | (obtain ⟨_, rfl⟩ := List.getElem?_eq_some_iff.1 ha; rfl) | (simp only [Pol.cells_eq]; rfl) | (simp only [ha, Option.getD_some, Pol.cells_eq]; rfl))) ?_
    refine seqE ?_
    refine seqE ?_
    refine andE (by (first | omega | (simp (disch := omega) only [wrap_small, mid_eq, List.length_map]; omega) | (simp; done) | (simp; omega) | (simp at *; omega) | (simp at *; done) | (simp_all; done) | (simp_all; omega))) ?_
    refine rowsE (Y := List.map (Trail.cells true) (List.set x1.s.1 x1.i (Trail.mk x1.s.2 (IntKind.i64.wrap (x1.s.2 + 1)) (x1.s.1[x1.i]?.getD default).First (x1.s.1[x1.i]?.getD default).Spans))) (by exact setMapS (by simp) (by first | rfl | (simp only [ha, Option.getD_some]; rfl) | (obtain ⟨_, rfl⟩ := List.getElem?_eq_some_iff.1 ha; rfl) | (simp only [Pol.cells_eq]; rfl) | (simp only [ha, Option.getD_some, Pol.cells_eq]; rfl))) ?_
    refine seqE ?_
    refine seqE ?_
    refine andE (by (first | omega | (simp (disch := omega) only [wrap_small, mid_eq, List.length_map]; omega) | (simp; done) | (simp; omega) | (simp at *; omega) | (simp at *; done) | (simp_all; done) | (simp_all; omega))) ?_
    refine rowsE (Y := List.map (Trail.cells true) (List.set x1.s.1 x1.i (Trail.mk x1.s.2 (IntKind.i64.wrap (x1.s.2 + 1)) (IntKind.i64.wrap ((IntKind.i64.wrap (x1.s.2 + 1)) + 1)) (x1.s.1[x1.i]?.getD default).Spans))) (by exact setMapS (by simp) (by first | rfl | (simp only [ha, Option.getD_some]; rfl) | (obtain ⟨_, rfl⟩ := List.getElem?_eq_some_iff.1 ha; rfl) | (simp only [Pol.cells_eq]; rfl) | (simp only [ha, Option.getD_some, Pol.cells_eq]; rfl))) ?_
    refine seqE ?_
    refine andE (by (first | omega | (simp (disch := omega) only [wrap_small, mid_eq, List.length_map]; omega) | (simp; done) | (simp; omega) | (simp at *; omega) | (simp at *; done) | (simp_all; done) | (simp_all; omega))) ?_
    refine rowSetE (i := x1.i) (l := x1.s.1) (x := (Trail.mk x1.s.2 (IntKind.i64.wrap (x1.s.2 + 1)) (IntKind.i64.wrap ((IntKind.i64.wrap (x1.s.2 + 1)) + 1)) (x1.s.1[x1.i]?.getD default).Spans)) (by first | rfl | exact Nat.zero_add _ | simp) (fun _ => ?_)
    refine .inr ⟨0, ?_⟩
    refine rowSetE (i := x1.i) (l := x1.s.1) (x := (Trail.mk x1.s.2 (IntKind.i64.wrap (x1.s.2 + 1)) (IntKind.i64.wrap ((IntKind.i64.wrap (x1.s.2 + 1)) + 1)) (x1.s.1[x1.i]?.getD default).Spans)) (by first | rfl | exact Nat.zero_add _ | simp) (fun _ => ?_)
    refine ⟨_, _, _, c_laws_markSpanS (x1.s.1[x1.i]?.getD default).Spans (IntKind.i64.wrap ((IntKind.i64.wrap ((IntKind.i64.wrap (x1.s.2 + 1)) + 1)) + 1)), (FzAs.same _), .inl ?_⟩
    refine rowsE (Y := List.map (Trail.cells true) (List.set x1.s.1 x1.i (Trail.mk x1.s.2 (IntKind.i64.wrap (x1.s.2 + 1)) (IntKind.i64.wrap ((IntKind.i64.wrap (x1.s.2 + 1)) + 1)) (laws_markSpanS (x1.s.1[x1.i]?.getD default).Spans (IntKind.i64.wrap ((IntKind.i64.wrap ((IntKind.i64.wrap (x1.s.2 + 1)) + 1)) + 1))).2))) (by exact setMapS (by simp) (by first | rfl | (simp only [ha, Option.getD_some]; rfl) | (obtain ⟨_, rfl⟩ := List.getElem?_eq_some_iff.1 ha; rfl) | (simp only [Pol.cells_eq]; rfl) | (simp only [ha, Option.getD_some, Pol.cells_eq]; rfl))) ?_
    refine litE (m := 3) rfl ?_
    exact x1.goE hi1 hb1 (by simpa using x1.hI) [none, some 1] ⟨rfl, ⟨rfl, (eqInt hw1), ⟨rfl, rfl, rfl, rfl, by (first | rfl | omega | (dsimp only; omega) | (simp; done) | (simp; omega) | (simp [LstSt.init, LstSt.step, LstInv.init, CntSt.init, CntSt.step, CntInv.init, WhlSt.init, WhlSt.step]; done) | (simp [LstSt.init, LstSt.step, LstInv.init, CntSt.init, CntSt.step, CntInv.init, WhlSt.init, WhlSt.step]; omega))⟩, trivial⟩, ⟨⟨rfl, rfl, rfl⟩, trivial⟩, ⟨⟨rfl, rfl, rfl, rfl, by (first | rfl | omega | (dsimp only; omega) | (simp; done) | (simp; omega) | (simp [LstSt.init, LstSt.step, LstInv.init, CntSt.init, CntSt.step, CntInv.init, WhlSt.init, WhlSt.step]; done) | (simp [LstSt.init, LstSt.step, LstInv.init, CntSt.init, CntSt.step, CntInv.init, WhlSt.init, WhlSt.step]; omega))⟩, trivial⟩⟩
  have hg := finE hg (x1.fin hi1)
  refine seqE ?_
  exact leafM hown hg
def laws_markVerdictS_b1 (i1 : Nat) (s1 : (List Verdict) × Int) (a1 : Verdict) : Step ((List Verdict) × Int) (Int × (List Verdict)) :=
  (.next ((List.set s1.1 i1 (Verdict.mk s1.2 (IntKind.i64.wrap (s1.2 + 1)) ((Int.tmod (IntKind.i64.wrap ((IntKind.i64.wrap (s1.2 + 1)) + 1)) 3) == 0))), (IntKind.i64.wrap ((IntKind.i64.wrap ((IntKind.i64.wrap (s1.2 + 1)) + 1)) + 1))))
def laws_markVerdictS (p0 : (List Verdict)) (p1 : Int) : (Int × (List Verdict)) :=
  (Fin.get (fun s1 => (s1.2, s1.1)) (loopL laws_markVerdictS_b1 0 (p0, p1) p0))
theorem c_laws_markVerdictS (p0 : (List Verdict)) (p1 : Int) : FnOk prog 60 [.tup [.one (.s true 3 (List.map Verdict.cells p0))], .one (.v (.int .i64 p1))] ⟨.one (.v (.int .i64 (laws_markVerdictS p0 p1).1)), [.one (.s true 3 (List.map Verdict.cells ((laws_markVerdictS p0 p1).2)))], [], false⟩ := by
  refine FnOk.introM (E := env) envOk wide func60 rfl (by kernel_rfl) rfl ?_
  have hg := laws_markVerdictS.eq_1 p0 p1
  have hown : (∀ g : (Int × (List Verdict)), AV.Own (AV.one (.v (.int .i64 g.1)))) ∧ (fun g : (Int × (List Verdict)) => T.s true 3 (List.map Verdict.cells (g.2))) = _ := ⟨fun g => .v _, rfl⟩
  refine seqE ?_
  refine seqE ?_
  refine seqE ?_
  refine loopLI (fun _ s => (s.1).length = (p0).length) hg (by simp) [0] (fun x1 => [(1, .one (.v (.int .i64 x1.s.2))), (5, .one (.v (.int .i64 ((x1.i : Nat) : Int))))]) (fun x1 => [.dead, .new ⟨3, false, List.map Verdict.cells x1.s.1, 0⟩]) [none, some 1] ?_ (fun x1 => ?_)
  · exact ⟨rfl, ⟨rfl, rfl, ⟨rfl, rfl, rfl, rfl, by (first | rfl | omega | (dsimp only; omega) | (simp; done) | (simp; omega) | (simp [LstSt.init, LstSt.step, LstInv.init, CntSt.init, CntSt.step, CntInv.init, WhlSt.init, WhlSt.step]; done) | (simp [LstSt.init, LstSt.step, LstInv.init, CntSt.init, CntSt.step, CntInv.init, WhlSt.init, WhlSt.step]; omega))⟩, trivial⟩, ⟨⟨rfl, rfl, rfl⟩, trivial⟩, ⟨⟨rfl, rfl, rfl, rfl, by (first | rfl | omega | (dsimp only; omega) | (simp; done) | (simp; omega) | (simp [LstSt.init, LstSt.step, LstInv.init, CntSt.init, CntSt.step, CntInv.init, WhlSt.init, WhlSt.step]; done) | (simp [LstSt.init, LstSt.step, LstInv.init, CntSt.init, CntSt.step, CntInv.init, WhlSt.init, WhlSt.step]; omega))⟩, trivial⟩⟩
  have hI1 : (x1.s.1).length = (p0).length := by simpa using x1.hI
  refine seqE ?_
  refine seqE ?_
  refine lenE (k := (p0).length) (by simp) (fun hN1 => ?_)
  refine tstL (fun hi1 => ?_) (fun hi1 => ?_)
  · have hb1 := (x1.bdy hi1).trans (laws_markVerdictS_b1.eq_1 ..)
    have hw1 := wrap_succ hi1 (by first | assumption | omega)
    refine seqE ?_
    refine seqE ?_
    refine andE (by (first | omega | (simp (disch := omega) only [wrap_small, mid_eq, List.length_map]; omega) | (simp; done) | (simp; omega) | (simp at *; omega) | (simp at *; done) | (simp_all; done) | (simp_all; omega))) ?_
    refine rowsE (Y := List.map Verdict.cells (List.set x1.s.1 x1.i (Verdict.mk x1.s.2 (x1.s.1[x1.i]?.getD default).Stamp (x1.s.1[x1.i]?.getD default).Keep))) (by exact setMapE (by simp) (fun a ha => by first | rfl | (simp only [ha, Option.getD_some]; rfl) | (obtain ⟨_, rfl⟩ := List.getElem?_eq_some_iff.1 ha; rfl) | (simp only [Pol.cells_eq]; rfl) | (simp only [ha, Option.getD_some, Pol.cells_eq]; rfl))) ?_
    refine seqE ?_
    refine seqE ?_
    refine andE (by (first | omega | (simp (disch := omega) only [wrap_small, mid_eq, List.length_map]; omega) | (simp; done) | (simp; omega) | (simp at *; omega) | (simp at *; done) | (simp_all; done) | (simp_all; omega))) ?_
    refine rowsE (Y := List.map Verdict.cells (List.set x1.s.1 x1.i (Verdict.mk x1.s.2 (IntKind.i64.wrap (x1.s.2 + 1)) (x1.s.1[x1.i]?.getD default).Keep))) (by exact setMapS (by simp) (by first | rfl | (simp only [ha, Option.getD_some]; rfl) | (obtain ⟨_, rfl⟩ := List.getElem?_eq_some_iff.1 ha; rfl) | (simp only [Pol.cells_eq]; rfl) | (simp only [ha, Option.getD_some, Pol.cells_eq]; rfl))) ?_
    refine seqE ?_
    refine seqE ?_
    refine andE (by (first | omega | (simp (disch := omega) only [wrap_small, mid_eq, List.length_map]; omega) | (simp; done) | (simp; omega) | (simp at *; omega) | (simp at *; done) | (simp_all; done) | (simp_all; omega))) ?_
    refine andE (by (first | omega | (simp (disch := omega) only [wrap_small, mid_eq, List.length_map]; omega) | (simp; done) | (simp; omega) | (simp at *; omega) | (simp at *; done) | (simp_all; done) | (simp_all; omega))) ?_
    refine rowsE (Y := List.map Verdict.cells (List.set x1.s.1 x1.i (Verdict.mk x1.s.2 (IntKind.i64.wrap (x1.s.2 + 1)) ((Int.tmod (IntKind.i64.wrap ((IntKind.i64.wrap (x1.s.2 + 1)) + 1)) 3) == 0)))) (by exact setMapS (by simp) (by first | rfl | (simp only [ha, Option.getD_some]; rfl) | (obtain ⟨_, rfl⟩ := List.getElem?_eq_some_iff.1 ha; rfl) | (simp only [Pol.cells_eq]; rfl) | (simp only [ha, Option.getD_some, Pol.cells_eq]; rfl))) ?_
    exact x1.goE hi1 hb1 (by simpa using x1.hI) [none, some 1] ⟨rfl, ⟨rfl, (eqInt hw1), ⟨rfl, rfl, rfl, rfl, by (first | rfl | omega | (dsimp only; omega) | (simp; done) | (simp; omega) | (simp [LstSt.init, LstSt.step, LstInv.init, CntSt.init, CntSt.step, CntInv.init, WhlSt.init, WhlSt.step]; done) | (simp [LstSt.init, LstSt.step, LstInv.init, CntSt.init, CntSt.step, CntInv.init, WhlSt.init, WhlSt.step]; omega))⟩, trivial⟩, ⟨⟨rfl, rfl, rfl⟩, trivial⟩, ⟨⟨rfl, rfl, rfl, rfl, by (first | rfl | omega | (dsimp only; omega) | (simp; done) | (simp; omega) | (simp [LstSt.init, LstSt.step, LstInv.init, CntSt.init, CntSt.step, CntInv.init, WhlSt.init, WhlSt.step]; done) | (simp [LstSt.init, LstSt.step, LstInv.init, CntSt.init, CntSt.step, CntInv.init, WhlSt.init, WhlSt.step]; omega))⟩, trivial⟩⟩
  have hg := finE hg (x1.fin hi1)
  refine seqE ?_
  exact leafM hown hg
def laws_markModel (p0 : Model) (p1 : Int) : (Int × Model) :=
  ((laws_markVerdictS p0.Cache (laws_markTrailS p0.Open (laws_markConf p0.C p1).1).1).1, (Model.mk (Conf.mk p0.C.Stripes p0.C.Wait p0.C.Budget p0.C.Cache p0.C.Queue p0.C.Rate p0.C.Burst (Pol.mk p0.C.Rule.Kind p0.C.Rule.N p0.C.Rule.Key p0.C.Rule.Text (laws_markConf p0.C p1).2.Rule.L)) p0.Shut (laws_markTrailS p0.Open (laws_markConf p0.C p1).1).2 (laws_markVerdictS p0.Cache (laws_markTrailS p0.Open (laws_markConf p0.C p1).1).1).2 p0.B p0.Used))
theorem c_laws_markModel (p0 : Model) (p1 : Int) : FnOk prog 23 [.tup [.agg ((Model.cells true) p0)], .one (.v (.int .i64 p1))] ⟨.one (.v (.int .i64 (laws_markModel p0 p1).1)), [.agg ((Model.cells true) (laws_markModel p0 p1).2)], [], false⟩ := by
  refine FnOk.introG (E := env) envOk wide func23 rfl (by kernel_rfl) rfl ?_
  have hg := laws_markModel.eq_1 p0 p1
  have hown : (∀ g : (Int × Model), AV.Own (AV.one (.v (.int .i64 g.1)))) ∧ (fun g : (Int × Model) => ((Model.cells true) g.2)) = _ := ⟨fun g => .v _, rfl⟩
  refine seqE ?_
  refine litE (m := 4) rfl ?_
  refine seqE ?_
  refine .inr ⟨0, _, _, _, c_laws_markConf p0.C p1, (FzAs.same _), ?_⟩
  refine litE (m := 6) rfl ?_
  refine seqE ?_
  refine .inr ⟨0, _, _, _, c_laws_markTrailS p0.Open (laws_markConf p0.C p1).1, (FzAs.same _), .inl ?_⟩
  refine litE (m := 7) rfl ?_
  refine seqE ?_
  refine .inr ⟨0, _, _, _, c_laws_markVerdictS p0.Cache (laws_markTrailS p0.Open (laws_markConf p0.C p1).1).1, (FzAs.same _), .inl ?_⟩
  refine litE (m := 8) rfl ?_
  refine seqE ?_
  exact leafG hown hg
def laws_heldPolS_b1 (r0 : (((List Pol)) → (Int) → (Int))) (i1 : Nat) (s1 : Int) (a1 : Pol) : Step (Int) Int :=
  (bif (a1.Kind != s1) then (.done (-1)) else (bif (a1.N != (IntKind.i64.wrap (s1 + 1))) then (.done (-1)) else (bif (!decide (a1.Key = (laws_markText (IntKind.i64.wrap ((IntKind.i64.wrap (s1 + 1)) + 1))))) then (.done (-1)) else (bif (!decide (a1.Text = (laws_markText (IntKind.i64.wrap ((IntKind.i64.wrap ((IntKind.i64.wrap (s1 + 1)) + 1)) + 1))))) then (.done (-1)) else (bif (decide ((r0 a1.L (IntKind.i64.wrap ((IntKind.i64.wrap ((IntKind.i64.wrap ((IntKind.i64.wrap (s1 + 1)) + 1)) + 1)) + 1))) < 0)) then (.done (-1)) else (.next (r0 a1.L (IntKind.i64.wrap ((IntKind.i64.wrap ((IntKind.i64.wrap ((IntKind.i64.wrap (s1 + 1)) + 1)) + 1)) + 1)))))))))
def laws_heldPolSR : Nat → ((List Pol)) → (Int) → (Int)
  | 0, _, _ => default
  | n + 1, p0, p1 => (Fin.get (fun s1 => s1) (loopL (laws_heldPolS_b1 (laws_heldPolSR n)) 0 p1 p0))
theorem cR_laws_heldPolS : ∀ (n : Nat) (p0 : (List Pol)) (p1 : Int), Pol.depL p0 < n → FnOk prog 157 [.one (.s false 5 (List.map (Pol.cells false) p0)), .one (.v (.int .i64 p1))] ⟨.one (.v (.int .i64 (laws_heldPolSR n p0 p1))), [], [], false⟩ := by
  intro n
  induction n with
  | zero => intro p0 p1 hd0; omega
  | succ n ih =>
    intro p0 p1 hd0
    refine FnOk.intro (E := env) envOk wide func157 rfl (by kernel_rfl) rfl rfl ?_
    have hg : laws_heldPolSR (n + 1) p0 p1 = _ := laws_heldPolSR.eq_2 ..
    have hown : ∀ g : Int, AV.Own (AV.one (.v (.int .i64 g))) := fun g => .v _
    refine seqE ?_
    refine seqE ?_
    refine seqE ?_
    refine loopLE hg [0] (fun x1 => [(1, .one (.v (.int .i64 x1.s))), (5, .one (.v (.int .i64 ((x1.i : Nat) : Int))))]) (fun x1 => []) [] ?_ (fun x1 => ?_)
    · exact ⟨rfl, ⟨rfl, rfl, rfl, trivial⟩, trivial, trivial⟩
    refine seqE ?_
    refine seqE ?_
    refine lenM fun hN1 => ?_
    refine tstL (fun hi1 => ?_) (fun hi1 => ?_)
    · have hb1 := (x1.bdy hi1).trans (laws_heldPolS_b1.eq_1 ..)
      have hw1 := wrap_succ hi1 (by first | assumption | omega)
      refine seqE ?_
      refine seqE ?_
      refine seqE ?_
      refine idxAtR (Pol.cells_eq false) hi1 ?_
      refine brW hb1 (fun hb1 h2 => ?_) (fun hb1 h2 => ?_)
      · refine seqE ?_
        have hg := donE hg (x1.outD hi1 hb1)
        exact leafE hown hg
      · refine seqE ?_
        refine seqE ?_
        refine seqE ?_
        refine idxAtR (Pol.cells_eq false) hi1 ?_
        refine brW hb1 (fun hb1 h3 => ?_) (fun hb1 h3 => ?_)
        · refine seqE ?_
          have hg := donE hg (x1.outD hi1 hb1)
          exact leafE hown hg
        · refine seqE ?_
          refine seqE ?_
          refine seqE ?_
          refine .inl ⟨by kernel_rfl, ?_⟩
          refine idxAtR (Pol.cells_eq false) hi1 ?_
          refine ⟨_, _, c_laws_markText (IntKind.i64.wrap ((IntKind.i64.wrap (x1.s + 1)) + 1)), (FzAs.same _), ?_⟩
          refine brE hb1 (fun hb1 h4 => ?_) (fun hb1 h4 => ?_)
          · refine seqE ?_
            have hg := donE hg (x1.outD hi1 hb1)
            exact leafE hown hg
          · refine seqE ?_
            refine seqE ?_
            refine seqE ?_
            refine .inl ⟨by kernel_rfl, ?_⟩
            refine idxAtR (Pol.cells_eq false) hi1 ?_
            refine ⟨_, _, c_laws_markText (IntKind.i64.wrap ((IntKind.i64.wrap ((IntKind.i64.wrap (x1.s + 1)) + 1)) + 1)), (FzAs.same _), ?_⟩
            refine brE hb1 (fun hb1 h5 => ?_) (fun hb1 h5 => ?_)
            · refine seqE ?_
              have hg := donE hg (x1.outD hi1 hb1)
              exact leafE hown hg
            · refine seqE ?_
              refine seqE ?_
              refine idxAtR (Pol.cells_eq false) hi1 ?_
              refine .inl (⟨_, _, ih (p0[x1.i]'hi1).L (IntKind.i64.wrap ((IntKind.i64.wrap ((IntKind.i64.wrap ((IntKind.i64.wrap (x1.s + 1)) + 1)) + 1)) + 1)) (by (have q2 := Pol.depL_mem (List.getElem_mem hi1); have q3 := Pol.dep_L (p0[x1.i]'hi1); omega)), (FzAs.same _), ?_⟩)
              refine litE (m := 1) rfl ?_
              refine seqE ?_
              refine brD hb1 (fun hb1 h6 => ?_) (fun hb1 h6 => x1.goE hi1 hb1 [] ⟨rfl, ⟨rfl, (eqInt hw1), rfl, trivial⟩, trivial, trivial⟩)
              refine seqE ?_
              have hg := donE hg (x1.outD hi1 hb1)
              exact leafE hown hg
    have hg := finE hg (x1.fin hi1)
    refine seqE ?_
    exact leafE hown hg
def laws_heldPolS (p0 : (List Pol)) (p1 : Int) : Int := laws_heldPolSR (Pol.depL p0 + 1) p0 p1
theorem c_laws_heldPolS (p0 : (List Pol)) (p1 : Int) : FnOk prog 157 [.one (.s false 5 (List.map (Pol.cells false) p0)), .one (.v (.int .i64 p1))] ⟨.one (.v (.int .i64 (laws_heldPolS p0 p1))), [], [], false⟩ := cR_laws_heldPolS _ p0 p1 (Nat.lt_succ_self _)
def laws_heldPol (p0 : Pol) (p1 : Int) : Int :=
  (bif (decide ((laws_heldPolS p0.L p1) < 0)) then (-1) else (laws_heldPolS p0.L p1))
theorem c_laws_heldPol (p0 : Pol) (p1 : Int) : FnOk prog 117 [.agg (Pol.opn false p0), .one (.v (.int .i64 p1))] ⟨.one (.v (.int .i64 (laws_heldPol p0 p1))), [], [], false⟩ := by
  refine FnOk.intro (E := env) envOk wide func117 rfl (by kernel_rfl) rfl rfl ?_
  have hg := laws_heldPol.eq_1 p0 p1
  have hown : ∀ g : Int, AV.Own (AV.one (.v (.int .i64 g))) := fun g => .v _
  refine seqE ?_
  refine litE (m := 0) rfl ?_
  refine seqE ?_
  refine .inl (⟨_, _, c_laws_heldPolS p0.L p1, (FzAs.same _), ?_⟩)
  refine litE (m := 2) rfl ?_
  refine seqE ?_
  refine seqE ?_
  refine brD hg (fun hg h1 => ?_) (fun hg h1 => ?_)
  · refine seqE ?_
    exact leafE hown hg
  · refine seqE ?_
    exact leafE hown hg
def laws_heldConf (p0 : Conf) (p1 : Int) : Int :=
  (bif (decide ((laws_heldPol p0.Rule p1) < 0)) then (-1) else (laws_heldPol p0.Rule p1))
theorem c_laws_heldConf (p0 : Conf) (p1 : Int) : FnOk prog 61 [.agg ((Conf.cells false) p0), .one (.v (.int .i64 p1))] ⟨.one (.v (.int .i64 (laws_heldConf p0 p1))), [], [], false⟩ := by
  refine FnOk.intro (E := env) envOk wide func61 rfl (by kernel_rfl) rfl rfl ?_
  have hg := laws_heldConf.eq_1 p0 p1
  have hown : ∀ g : Int, AV.Own (AV.one (.v (.int .i64 g))) := fun g => .v _
  refine seqE ?_
  refine litE (m := 0) rfl ?_
  refine seqE ?_
  refine .inl (⟨_, _, c_laws_heldPol p0.Rule p1, (FzAs.same _), ?_⟩)
  refine litE (m := 2) rfl ?_
  refine seqE ?_
  refine seqE ?_
  refine brD hg (fun hg h1 => ?_) (fun hg h1 => ?_)
  · refine seqE ?_
    exact leafE hown hg
  · refine seqE ?_
    exact leafE hown hg
def laws_heldAttrS_b1 (i1 : Nat) (s1 : Int) (a1 : Attr) : Step (Int) Int :=
  (bif (!decide (a1.Key = (laws_markText s1))) then (.done (-1)) else (bif (!(a1.Num == ((Int.tmod (IntKind.i64.wrap (s1 + 1)) 3) == 0))) then (.done (-1)) else (bif (a1.N != (IntKind.i64.wrap ((IntKind.i64.wrap (s1 + 1)) + 1))) then (.done (-1)) else (bif (!decide (a1.Text = (laws_markText (IntKind.i64.wrap ((IntKind.i64.wrap ((IntKind.i64.wrap (s1 + 1)) + 1)) + 1))))) then (.done (-1)) else (.next (IntKind.i64.wrap ((IntKind.i64.wrap ((IntKind.i64.wrap ((IntKind.i64.wrap (s1 + 1)) + 1)) + 1)) + 1)))))))
def laws_heldAttrS (p0 : (List Attr)) (p1 : Int) : Int :=
  (Fin.get (fun s1 => s1) (loopL laws_heldAttrS_b1 0 p1 p0))
theorem c_laws_heldAttrS (p0 : (List Attr)) (p1 : Int) : FnOk prog 90 [.one (.s false 4 (List.map Attr.cells p0)), .one (.v (.int .i64 p1))] ⟨.one (.v (.int .i64 (laws_heldAttrS p0 p1))), [], [], false⟩ := by
  refine FnOk.intro (E := env) envOk wide func90 rfl (by kernel_rfl) rfl rfl ?_
  have hg := laws_heldAttrS.eq_1 p0 p1
  have hown : ∀ g : Int, AV.Own (AV.one (.v (.int .i64 g))) := fun g => .v _
  refine seqE ?_
  refine seqE ?_
  refine seqE ?_
  refine loopLE hg [0] (fun x1 => [(1, .one (.v (.int .i64 x1.s))), (5, .one (.v (.int .i64 ((x1.i : Nat) : Int))))]) (fun x1 => []) [] ?_ (fun x1 => ?_)
  · exact ⟨rfl, ⟨rfl, rfl, rfl, trivial⟩, trivial, trivial⟩
  refine seqE ?_
  refine seqE ?_
  refine lenM fun hN1 => ?_
  refine tstL (fun hi1 => ?_) (fun hi1 => ?_)
  · have hb1 := (x1.bdy hi1).trans (laws_heldAttrS_b1.eq_1 ..)
    have hw1 := wrap_succ hi1 (by first | assumption | omega)
    refine seqE ?_
    refine seqE ?_
    refine seqE ?_
    refine .inl ⟨by kernel_rfl, ?_⟩
    refine idxAt hi1 ?_
    refine ⟨_, _, c_laws_markText x1.s, (FzAs.same _), ?_⟩
    refine brE hb1 (fun hb1 h2 => ?_) (fun hb1 h2 => ?_)
    · refine seqE ?_
      have hg := donE hg (x1.outD hi1 hb1)
      exact leafE hown hg
    · refine seqE ?_
      refine seqE ?_
      refine seqE ?_
      refine idxAt hi1 ?_
      refine andE (by (first | omega | (simp (disch := omega) only [wrap_small, mid_eq, List.length_map]; omega) | (simp; done) | (simp; omega) | (simp at *; omega) | (simp at *; done) | (simp_all; done) | (simp_all; omega))) ?_
      refine brE hb1 (fun hb1 h3 => ?_) (fun hb1 h3 => ?_)
      · refine seqE ?_
        have hg := donE hg (x1.outD hi1 hb1)
        exact leafE hown hg
      · refine seqE ?_
        refine seqE ?_
        refine seqE ?_
        refine idxAt hi1 ?_
        refine brW hb1 (fun hb1 h4 => ?_) (fun hb1 h4 => ?_)
        · refine seqE ?_
          have hg := donE hg (x1.outD hi1 hb1)
          exact leafE hown hg
        · refine seqE ?_
          refine seqE ?_
          refine seqE ?_
          refine .inl ⟨by kernel_rfl, ?_⟩
          refine idxAt hi1 ?_
          refine ⟨_, _, c_laws_markText (IntKind.i64.wrap ((IntKind.i64.wrap ((IntKind.i64.wrap (x1.s + 1)) + 1)) + 1)), (FzAs.same _), ?_⟩
          refine brE hb1 (fun hb1 h5 => ?_) (fun hb1 h5 => x1.goE hi1 hb1 [] ⟨rfl, ⟨rfl, (eqInt hw1), rfl, trivial⟩, trivial, trivial⟩)
          refine seqE ?_
          have hg := donE hg (x1.outD hi1 hb1)
          exact leafE hown hg
  have hg := finE hg (x1.fin hi1)
  refine seqE ?_
  exact leafE hown hg
def laws_heldSpanS_b1 (i1 : Nat) (s1 : Int) (a1 : Span) : Step (Int) Int :=
  (bif (a1.Trace != s1) then (.done (-1)) else (bif (a1.Id != (IntKind.i64.wrap (s1 + 1))) then (.done (-1)) else (bif (a1.Start != (IntKind.i64.wrap ((IntKind.i64.wrap (s1 + 1)) + 1))) then (.done (-1)) else (bif (a1.End != (IntKind.i64.wrap ((IntKind.i64.wrap ((IntKind.i64.wrap (s1 + 1)) + 1)) + 1))) then (.done (-1)) else (bif (!(a1.Err == ((Int.tmod (IntKind.i64.wrap ((IntKind.i64.wrap ((IntKind.i64.wrap ((IntKind.i64.wrap (s1 + 1)) + 1)) + 1)) + 1)) 3) == 0))) then (.done (-1)) else (bif (decide ((laws_heldAttrS a1.Attrs (IntKind.i64.wrap ((IntKind.i64.wrap ((IntKind.i64.wrap ((IntKind.i64.wrap ((IntKind.i64.wrap (s1 + 1)) + 1)) + 1)) + 1)) + 1))) < 0)) then (.done (-1)) else (.next (laws_heldAttrS a1.Attrs (IntKind.i64.wrap ((IntKind.i64.wrap ((IntKind.i64.wrap ((IntKind.i64.wrap ((IntKind.i64.wrap (s1 + 1)) + 1)) + 1)) + 1)) + 1))))))))))
def laws_heldSpanS (p0 : (List Span)) (p1 : Int) : Int :=
  (Fin.get (fun s1 => s1) (loopL laws_heldSpanS_b1 0 p1 p0))
theorem c_laws_heldSpanS (p0 : (List Span)) (p1 : Int) : FnOk prog 33 [.one (.s false 6 (List.map (Span.cells false) p0)), .one (.v (.int .i64 p1))] ⟨.one (.v (.int .i64 (laws_heldSpanS p0 p1))), [], [], false⟩ := by
  refine FnOk.intro (E := env) envOk wide func33 rfl (by kernel_rfl) rfl rfl ?_
  have hg := laws_heldSpanS.eq_1 p0 p1
  have hown : ∀ g : Int, AV.Own (AV.one (.v (.int .i64 g))) := fun g => .v _
  refine seqE ?_
  refine seqE ?_
  refine seqE ?_
  refine loopLE hg [0] (fun x1 => [(1, .one (.v (.int .i64 x1.s))), (5, .one (.v (.int .i64 ((x1.i : Nat) : Int))))]) (fun x1 => []) [] ?_ (fun x1 => ?_)
  · exact ⟨rfl, ⟨rfl, rfl, rfl, trivial⟩, trivial, trivial⟩
  refine seqE ?_
  refine seqE ?_
  refine lenM fun hN1 => ?_
  refine tstL (fun hi1 => ?_) (fun hi1 => ?_)
  · have hb1 := (x1.bdy hi1).trans (laws_heldSpanS_b1.eq_1 ..)
    have hw1 := wrap_succ hi1 (by first | assumption | omega)
    refine seqE ?_
    refine seqE ?_
    refine seqE ?_
    refine idxAt hi1 ?_
    refine brW hb1 (fun hb1 h2 => ?_) (fun hb1 h2 => ?_)
    · refine seqE ?_
      have hg := donE hg (x1.outD hi1 hb1)
      exact leafE hown hg
    · refine seqE ?_
      refine seqE ?_
      refine seqE ?_
      refine idxAt hi1 ?_
      refine brW hb1 (fun hb1 h3 => ?_) (fun hb1 h3 => ?_)
      · refine seqE ?_
        have hg := donE hg (x1.outD hi1 hb1)
        exact leafE hown hg
      · refine seqE ?_
        refine seqE ?_
        refine seqE ?_
        refine idxAt hi1 ?_
        refine brW hb1 (fun hb1 h4 => ?_) (fun hb1 h4 => ?_)
        · refine seqE ?_
          have hg := donE hg (x1.outD hi1 hb1)
          exact leafE hown hg
        · refine seqE ?_
          refine seqE ?_
          refine seqE ?_
          refine idxAt hi1 ?_
          refine brW hb1 (fun hb1 h5 => ?_) (fun hb1 h5 => ?_)
          · refine seqE ?_
            have hg := donE hg (x1.outD hi1 hb1)
            exact leafE hown hg
          · refine seqE ?_
            refine seqE ?_
            refine seqE ?_
            refine idxAt hi1 ?_
            refine andE (by (first | omega | (simp (disch := omega) only [wrap_small, mid_eq, List.length_map]; omega) | (simp; done) | (simp; omega) | (simp at *; omega) | (simp at *; done) | (simp_all; done) | (simp_all; omega))) ?_
            refine brE hb1 (fun hb1 h6 => ?_) (fun hb1 h6 => ?_)
            · refine seqE ?_
              have hg := donE hg (x1.outD hi1 hb1)
              exact leafE hown hg
            · refine seqE ?_
              refine seqE ?_
              refine idxAt hi1 ?_
              refine .inl (⟨_, _, c_laws_heldAttrS (p0[x1.i]'hi1).Attrs (IntKind.i64.wrap ((IntKind.i64.wrap ((IntKind.i64.wrap ((IntKind.i64.wrap ((IntKind.i64.wrap (x1.s + 1)) + 1)) + 1)) + 1)) + 1)), (FzAs.same _), ?_⟩)
              refine litE (m := 1) rfl ?_
              refine seqE ?_
              refine brD hb1 (fun hb1 h7 => ?_) (fun hb1 h7 => x1.goE hi1 hb1 [] ⟨rfl, ⟨rfl, (eqInt hw1), rfl, trivial⟩, trivial, trivial⟩)
              refine seqE ?_
              have hg := donE hg (x1.outD hi1 hb1)
              exact leafE hown hg
  have hg := finE hg (x1.fin hi1)
  refine seqE ?_
  exact leafE hown hg
def laws_heldTrailS_b1 (i1 : Nat) (s1 : Int) (a1 : Trail) : Step (Int) Int :=
  (bif (a1.Id != s1) then (.done (-1)) else (bif (a1.Stamp != (IntKind.i64.wrap (s1 + 1))) then (.done (-1)) else (bif (a1.First != (IntKind.i64.wrap ((IntKind.i64.wrap (s1 + 1)) + 1))) then (.done (-1)) else (bif (decide ((laws_heldSpanS a1.Spans (IntKind.i64.wrap ((IntKind.i64.wrap ((IntKind.i64.wrap (s1 + 1)) + 1)) + 1))) < 0)) then (.done (-1)) else (.next (laws_heldSpanS a1.Spans (IntKind.i64.wrap ((IntKind.i64.wrap ((IntKind.i64.wrap (s1 + 1)) + 1)) + 1))))))))
def laws_heldTrailS (p0 : (List Trail)) (p1 : Int) : Int :=
  (Fin.get (fun s1 => s1) (loopL laws_heldTrailS_b1 0 p1 p0))
theorem c_laws_heldTrailS (p0 : (List Trail)) (p1 : Int) : FnOk prog 62 [.one (.s false 4 (List.map (Trail.cells false) p0)), .one (.v (.int .i64 p1))] ⟨.one (.v (.int .i64 (laws_heldTrailS p0 p1))), [], [], false⟩ := by
  refine FnOk.intro (E := env) envOk wide func62 rfl (by kernel_rfl) rfl rfl ?_
  have hg := laws_heldTrailS.eq_1 p0 p1
  have hown : ∀ g : Int, AV.Own (AV.one (.v (.int .i64 g))) := fun g => .v _
  refine seqE ?_
  refine seqE ?_
  refine seqE ?_
  refine loopLE hg [0] (fun x1 => [(1, .one (.v (.int .i64 x1.s))), (5, .one (.v (.int .i64 ((x1.i : Nat) : Int))))]) (fun x1 => []) [] ?_ (fun x1 => ?_)
  · exact ⟨rfl, ⟨rfl, rfl, rfl, trivial⟩, trivial, trivial⟩
  refine seqE ?_
  refine seqE ?_
  refine lenM fun hN1 => ?_
  refine tstL (fun hi1 => ?_) (fun hi1 => ?_)
  · have hb1 := (x1.bdy hi1).trans (laws_heldTrailS_b1.eq_1 ..)
    have hw1 := wrap_succ hi1 (by first | assumption | omega)
    refine seqE ?_
    refine seqE ?_
    refine seqE ?_
    refine idxAt hi1 ?_
    refine brW hb1 (fun hb1 h2 => ?_) (fun hb1 h2 => ?_)
    · refine seqE ?_
      have hg := donE hg (x1.outD hi1 hb1)
      exact leafE hown hg
    · refine seqE ?_
      refine seqE ?_
      refine seqE ?_
      refine idxAt hi1 ?_
      refine brW hb1 (fun hb1 h3 => ?_) (fun hb1 h3 => ?_)
      · refine seqE ?_
        have hg := donE hg (x1.outD hi1 hb1)
        exact leafE hown hg
      · refine seqE ?_
        refine seqE ?_
        refine seqE ?_
        refine idxAt hi1 ?_
        refine brW hb1 (fun hb1 h4 => ?_) (fun hb1 h4 => ?_)
        · refine seqE ?_
          have hg := donE hg (x1.outD hi1 hb1)
          exact leafE hown hg
        · refine seqE ?_
          refine seqE ?_
          refine idxAt hi1 ?_
          refine .inl (⟨_, _, c_laws_heldSpanS (p0[x1.i]'hi1).Spans (IntKind.i64.wrap ((IntKind.i64.wrap ((IntKind.i64.wrap (x1.s + 1)) + 1)) + 1)), (FzAs.same _), ?_⟩)
          refine litE (m := 1) rfl ?_
          refine seqE ?_
          refine brD hb1 (fun hb1 h5 => ?_) (fun hb1 h5 => x1.goE hi1 hb1 [] ⟨rfl, ⟨rfl, (eqInt hw1), rfl, trivial⟩, trivial, trivial⟩)
          refine seqE ?_
          have hg := donE hg (x1.outD hi1 hb1)
          exact leafE hown hg
  have hg := finE hg (x1.fin hi1)
  refine seqE ?_
  exact leafE hown hg
def laws_heldVerdictS_b1 (i1 : Nat) (s1 : Int) (a1 : Verdict) : Step (Int) Int :=
  (bif (a1.Trace != s1) then (.done (-1)) else (bif (a1.Stamp != (IntKind.i64.wrap (s1 + 1))) then (.done (-1)) else (bif (!(a1.Keep == ((Int.tmod (IntKind.i64.wrap ((IntKind.i64.wrap (s1 + 1)) + 1)) 3) == 0))) then (.done (-1)) else (.next (IntKind.i64.wrap ((IntKind.i64.wrap ((IntKind.i64.wrap (s1 + 1)) + 1)) + 1))))))
def laws_heldVerdictS (p0 : (List Verdict)) (p1 : Int) : Int :=
  (Fin.get (fun s1 => s1) (loopL laws_heldVerdictS_b1 0 p1 p0))
theorem c_laws_heldVerdictS (p0 : (List Verdict)) (p1 : Int) : FnOk prog 63 [.one (.s false 3 (List.map Verdict.cells p0)), .one (.v (.int .i64 p1))] ⟨.one (.v (.int .i64 (laws_heldVerdictS p0 p1))), [], [], false⟩ := by
  refine FnOk.intro (E := env) envOk wide func63 rfl (by kernel_rfl) rfl rfl ?_
  have hg := laws_heldVerdictS.eq_1 p0 p1
  have hown : ∀ g : Int, AV.Own (AV.one (.v (.int .i64 g))) := fun g => .v _
  refine seqE ?_
  refine seqE ?_
  refine seqE ?_
  refine loopLE hg [0] (fun x1 => [(1, .one (.v (.int .i64 x1.s))), (5, .one (.v (.int .i64 ((x1.i : Nat) : Int))))]) (fun x1 => []) [] ?_ (fun x1 => ?_)
  · exact ⟨rfl, ⟨rfl, rfl, rfl, trivial⟩, trivial, trivial⟩
  refine seqE ?_
  refine seqE ?_
  refine lenM fun hN1 => ?_
  refine tstL (fun hi1 => ?_) (fun hi1 => ?_)
  · have hb1 := (x1.bdy hi1).trans (laws_heldVerdictS_b1.eq_1 ..)
    have hw1 := wrap_succ hi1 (by first | assumption | omega)
    refine seqE ?_
    refine seqE ?_
    refine seqE ?_
    refine idxAt hi1 ?_
    refine brW hb1 (fun hb1 h2 => ?_) (fun hb1 h2 => ?_)
    · refine seqE ?_
      have hg := donE hg (x1.outD hi1 hb1)
      exact leafE hown hg
    · refine seqE ?_
      refine seqE ?_
      refine seqE ?_
      refine idxAt hi1 ?_
      refine brW hb1 (fun hb1 h3 => ?_) (fun hb1 h3 => ?_)
      · refine seqE ?_
        have hg := donE hg (x1.outD hi1 hb1)
        exact leafE hown hg
      · refine seqE ?_
        refine seqE ?_
        refine seqE ?_
        refine idxAt hi1 ?_
        refine andE (by (first | omega | (simp (disch := omega) only [wrap_small, mid_eq, List.length_map]; omega) | (simp; done) | (simp; omega) | (simp at *; omega) | (simp at *; done) | (simp_all; done) | (simp_all; omega))) ?_
        refine brE hb1 (fun hb1 h4 => ?_) (fun hb1 h4 => x1.goE hi1 hb1 [] ⟨rfl, ⟨rfl, (eqInt hw1), rfl, trivial⟩, trivial, trivial⟩)
        refine seqE ?_
        have hg := donE hg (x1.outD hi1 hb1)
        exact leafE hown hg
  have hg := finE hg (x1.fin hi1)
  refine seqE ?_
  exact leafE hown hg
def laws_heldModel (p0 : Model) (p1 : Int) : Int :=
  (bif (decide ((laws_heldConf p0.C p1) < 0)) then (-1) else (bif (decide ((laws_heldTrailS p0.Open (laws_heldConf p0.C p1)) < 0)) then (-1) else (bif (decide ((laws_heldVerdictS p0.Cache (laws_heldTrailS p0.Open (laws_heldConf p0.C p1))) < 0)) then (-1) else (laws_heldVerdictS p0.Cache (laws_heldTrailS p0.Open (laws_heldConf p0.C p1))))))
theorem c_laws_heldModel (p0 : Model) (p1 : Int) : FnOk prog 24 [.agg ((Model.cells false) p0), .one (.v (.int .i64 p1))] ⟨.one (.v (.int .i64 (laws_heldModel p0 p1))), [], [], false⟩ := by
  refine FnOk.intro (E := env) envOk wide func24 rfl (by kernel_rfl) rfl rfl ?_
  have hg := laws_heldModel.eq_1 p0 p1
  have hown : ∀ g : Int, AV.Own (AV.one (.v (.int .i64 g))) := fun g => .v _
  refine seqE ?_
  refine litE (m := 0) rfl ?_
  refine seqE ?_
  refine .inl (⟨_, _, c_laws_heldConf p0.C p1, (FzAs.same _), ?_⟩)
  refine litE (m := 2) rfl ?_
  refine seqE ?_
  refine seqE ?_
  refine brD hg (fun hg h1 => ?_) (fun hg h1 => ?_)
  · refine seqE ?_
    exact leafE hown hg
  · refine seqE ?_
    refine .inl (⟨_, _, c_laws_heldTrailS p0.Open (laws_heldConf p0.C p1), (FzAs.same _), ?_⟩)
    refine litE (m := 3) rfl ?_
    refine seqE ?_
    refine seqE ?_
    refine brD hg (fun hg h2 => ?_) (fun hg h2 => ?_)
    · refine seqE ?_
      exact leafE hown hg
    · refine seqE ?_
      refine .inl (⟨_, _, c_laws_heldVerdictS p0.Cache (laws_heldTrailS p0.Open (laws_heldConf p0.C p1)), (FzAs.same _), ?_⟩)
      refine litE (m := 4) rfl ?_
      refine seqE ?_
      refine seqE ?_
      refine brD hg (fun hg h3 => ?_) (fun hg h3 => ?_)
      · refine seqE ?_
        exact leafE hown hg
      · refine seqE ?_
        exact leafE hown hg
def laws_FnExactModelNew (p0 : Conf) : Bool :=
  (bif (decide ((laws_szConf p0 1048576) < 0)) then true else (bif (!(laws_eqModel (impl_ModelNew (laws_toConf p0)) (spec_ModelNew (laws_toConf p0)))) then false else (bif (!(laws_eqConf (laws_toConf p0) (laws_toConf p0))) then false else (bif (decide ((laws_markConf (laws_toConf p0) 1).1 < 0)) then false else (bif (!(laws_eqModel (impl_ModelNew (laws_toConf p0)) (spec_ModelNew (laws_toConf p0)))) then false else (bif (decide ((laws_heldModel (Model.mk (Conf.mk (impl_ModelNew (laws_toConf p0)).C.Stripes (impl_ModelNew (laws_toConf p0)).C.Wait (impl_ModelNew (laws_toConf p0)).C.Budget (impl_ModelNew (laws_toConf p0)).C.Cache (impl_ModelNew (laws_toConf p0)).C.Queue (impl_ModelNew (laws_toConf p0)).C.Rate (impl_ModelNew (laws_toConf p0)).C.Burst (Pol.mk (impl_ModelNew (laws_toConf p0)).C.Rule.Kind (impl_ModelNew (laws_toConf p0)).C.Rule.N (impl_ModelNew (laws_toConf p0)).C.Rule.Key (impl_ModelNew (laws_toConf p0)).C.Rule.Text (laws_markModel (impl_ModelNew (laws_toConf p0)) 1).2.C.Rule.L)) (impl_ModelNew (laws_toConf p0)).Shut (laws_markModel (impl_ModelNew (laws_toConf p0)) 1).2.Open (laws_markModel (impl_ModelNew (laws_toConf p0)) 1).2.Cache (impl_ModelNew (laws_toConf p0)).B (impl_ModelNew (laws_toConf p0)).Used) 1) < 0)) then false else (bif ((laws_heldModel (Model.mk (Conf.mk (impl_ModelNew (laws_toConf p0)).C.Stripes (impl_ModelNew (laws_toConf p0)).C.Wait (impl_ModelNew (laws_toConf p0)).C.Budget (impl_ModelNew (laws_toConf p0)).C.Cache (impl_ModelNew (laws_toConf p0)).C.Queue (impl_ModelNew (laws_toConf p0)).C.Rate (impl_ModelNew (laws_toConf p0)).C.Burst (Pol.mk (impl_ModelNew (laws_toConf p0)).C.Rule.Kind (impl_ModelNew (laws_toConf p0)).C.Rule.N (impl_ModelNew (laws_toConf p0)).C.Rule.Key (impl_ModelNew (laws_toConf p0)).C.Rule.Text (laws_markModel (impl_ModelNew (laws_toConf p0)) 1).2.C.Rule.L)) (impl_ModelNew (laws_toConf p0)).Shut (laws_markModel (impl_ModelNew (laws_toConf p0)) 1).2.Open (laws_markModel (impl_ModelNew (laws_toConf p0)) 1).2.Cache (impl_ModelNew (laws_toConf p0)).B (impl_ModelNew (laws_toConf p0)).Used) 1) != (laws_markModel (impl_ModelNew (laws_toConf p0)) 1).1) then false else (bif (!(laws_eqModel (impl_ModelNew (laws_toConf p0)) (spec_ModelNew (laws_toConf p0)))) then false else (bif (decide ((laws_heldModel (Model.mk (Conf.mk (impl_ModelNew (laws_toConf p0)).C.Stripes (impl_ModelNew (laws_toConf p0)).C.Wait (impl_ModelNew (laws_toConf p0)).C.Budget (impl_ModelNew (laws_toConf p0)).C.Cache (impl_ModelNew (laws_toConf p0)).C.Queue (impl_ModelNew (laws_toConf p0)).C.Rate (impl_ModelNew (laws_toConf p0)).C.Burst (Pol.mk (impl_ModelNew (laws_toConf p0)).C.Rule.Kind (impl_ModelNew (laws_toConf p0)).C.Rule.N (impl_ModelNew (laws_toConf p0)).C.Rule.Key (impl_ModelNew (laws_toConf p0)).C.Rule.Text (laws_markModel (impl_ModelNew (laws_toConf p0)) 1).2.C.Rule.L)) (impl_ModelNew (laws_toConf p0)).Shut (laws_markModel (impl_ModelNew (laws_toConf p0)) 1).2.Open (laws_markModel (impl_ModelNew (laws_toConf p0)) 1).2.Cache (impl_ModelNew (laws_toConf p0)).B (impl_ModelNew (laws_toConf p0)).Used) 1) < 0)) then false else (bif ((laws_heldModel (Model.mk (Conf.mk (impl_ModelNew (laws_toConf p0)).C.Stripes (impl_ModelNew (laws_toConf p0)).C.Wait (impl_ModelNew (laws_toConf p0)).C.Budget (impl_ModelNew (laws_toConf p0)).C.Cache (impl_ModelNew (laws_toConf p0)).C.Queue (impl_ModelNew (laws_toConf p0)).C.Rate (impl_ModelNew (laws_toConf p0)).C.Burst (Pol.mk (impl_ModelNew (laws_toConf p0)).C.Rule.Kind (impl_ModelNew (laws_toConf p0)).C.Rule.N (impl_ModelNew (laws_toConf p0)).C.Rule.Key (impl_ModelNew (laws_toConf p0)).C.Rule.Text (laws_markModel (impl_ModelNew (laws_toConf p0)) 1).2.C.Rule.L)) (impl_ModelNew (laws_toConf p0)).Shut (laws_markModel (impl_ModelNew (laws_toConf p0)) 1).2.Open (laws_markModel (impl_ModelNew (laws_toConf p0)) 1).2.Cache (impl_ModelNew (laws_toConf p0)).B (impl_ModelNew (laws_toConf p0)).Used) 1) != (laws_markModel (impl_ModelNew (laws_toConf p0)) 1).1) then false else true))))))))))
theorem c_laws_FnExactModelNew (p0 : Conf) (hw0 : Conf.bd 9223372036854775807 p0) : FnOk prog 4 [.agg ((Conf.cells false) p0)] ⟨.one (.v (.bool (laws_FnExactModelNew p0))), [], [], false⟩ := by
  refine FnOk.intro (E := env) envOk wide func4 rfl (by kernel_rfl) rfl rfl ?_
  have hg := laws_FnExactModelNew.eq_1 p0
  have hown : ∀ g : Bool, AV.Own (AV.one (.v (.bool g))) := fun g => .v _
  refine seqE ?_
  refine litE (m := 0) rfl ?_
  refine seqE ?_
  refine seqE ?_
  refine .inl (⟨_, _, c_laws_szConf p0 1048576, (FzAs.same _), ?_⟩)
  refine litE (m := 2) rfl ?_
  refine seqE ?_
  refine seqE ?_
  refine brD hg (fun hg h1 => ?_) (fun hg h1 => ?_)
  · refine seqE ?_
    exact leafE hown hg
  have hz1 := szd_laws_szConf p0 1048576 (by assumption) (by decide) (by decide) (Int.not_lt.1 h1)
  have hs1 := hz1.1
  have hl1 : (laws_szConf p0 1048576) ≤ 1048576 := Int.le_trans hz1.2 (by decide)
  refine seqE ?_
  refine .inl (⟨_, _, c_laws_toConf p0 (by first | assumption | (simp only [id_laws_toConf]; assumption)), (FzAs.same _), ?_⟩)
  refine litE (m := 3) rfl ?_
  refine .inl (⟨_, _, c_spec_ModelNew (laws_toConf p0) (by first | assumption | (simp only [id_laws_toConf]; assumption)), (.cons (.agg (.cons (.same _) (.cons (.same _) (.cons (.same _) (.cons (.same _) (.cons (.same _) (.cons (.same _) (.cons (.same _) (.cons (.same _) (.cons (.same _) (.cons (.same _) (.cons (.same _) (.cons (.sl _ _ _ _ (frzMap frz_Pol _)) .nil))))))))))))) (.same _)), ?_⟩)
  refine litE (m := 5) rfl ?_
  refine litE (m := 8) rfl ?_
  refine seqE ?_
  refine .inl (⟨_, _, c_laws_toConf p0 (by first | assumption | (simp only [id_laws_toConf]; assumption)), (FzAs.same _), ?_⟩)
  refine litE (m := 10) rfl ?_
  refine litE (m := 11) rfl ?_
  refine seqE ?_
  refine .inl (⟨_, _, c_impl_ModelNew (laws_toConf p0) (by first | assumption | (simp only [id_laws_toConf]; assumption)), (.cons (.agg (.cons (.same _) (.cons (.same _) (.cons (.same _) (.cons (.same _) (.cons (.same _) (.cons (.same _) (.cons (.same _) (.cons (.same _) (.cons (.same _) (.cons (.same _) (.cons (.same _) (.cons (.sl _ _ _ _ (frzMap frz_Pol _)) .nil))))))))))))) (.same _)), ?_⟩)
  refine litE (m := 13) rfl ?_
  refine litE (m := 16) rfl ?_
  refine seqE ?_
  refine seqE ?_
  refine .inl (⟨_, _, c_laws_eqModel (impl_ModelNew (laws_toConf p0)) (spec_ModelNew (laws_toConf p0)), (.cons (.agg (.cons (.same _) (.cons (.same _) (.cons (.same _) (.cons (.same _) (.cons (.same _) (.cons (.same _) (.cons (.same _) (.cons (.same _) (.cons (.same _) (.cons (.same _) (.cons (.same _) (.cons (.sl _ _ _ _ (frzMap frz_Pol _)) (.cons (.same _) (.cons (.sl _ _ _ _ (frzMap frz_Trail _)) (.cons (.same _) (.cons (.same _) (.cons (.same _) (.cons (.same _) (.cons (.same _) (.cons (.same _) .nil))))))))))))))))))))) (.cons (.agg (.cons (.same _) (.cons (.same _) (.cons (.same _) (.cons (.same _) (.cons (.same _) (.cons (.same _) (.cons (.same _) (.cons (.same _) (.cons (.same _) (.cons (.same _) (.cons (.same _) (.cons (.sl _ _ _ _ (frzMap frz_Pol _)) (.cons (.same _) (.cons (.sl _ _ _ _ (frzMap frz_Trail _)) (.cons (.same _) (.cons (.same _) (.cons (.same _) (.cons (.same _) (.cons (.same _) (.cons (.same _) .nil))))))))))))))))))))) (.same _))), ?_⟩)
  refine litE (m := 18) rfl ?_
  refine brE hg (fun hg h2 => ?_) (fun hg h2 => ?_)
  · refine seqE ?_
    exact leafE hown hg
  · refine seqE ?_
    refine seqE ?_
    refine .inr (.inl ⟨5, [(0, true), (1, true), (2, false), (3, false), (4, false)], by kernel_rfl, ?_⟩)
    refine ⟨_, _, c_laws_toConf p0 (by first | assumption | (simp only [id_laws_toConf]; assumption)), (FzAs.same _), ?_⟩
    refine litE (m := 19) rfl ?_
    refine ⟨_, _, c_laws_eqConf (laws_toConf p0) (laws_toConf p0), (.cons (.agg (.cons (.same _) (.cons (.same _) (.cons (.same _) (.cons (.same _) (.cons (.same _) (.cons (.same _) (.cons (.same _) (.cons (.same _) (.cons (.same _) (.cons (.same _) (.cons (.same _) (.cons (.sl _ _ _ _ (frzMap frz_Pol _)) .nil))))))))))))) (.cons (.agg (.cons (.same _) (.cons (.same _) (.cons (.same _) (.cons (.same _) (.cons (.same _) (.cons (.same _) (.cons (.same _) (.cons (.same _) (.cons (.same _) (.cons (.same _) (.cons (.same _) (.cons (.sl _ _ _ _ (frzMap frz_Pol _)) .nil))))))))))))) (.same _))), ?_⟩
    refine litE (m := 21) rfl ?_
    refine brE hg (fun hg h3 => ?_) (fun hg h3 => ?_)
    · refine seqE ?_
      exact leafE hown hg
    · refine seqE ?_
      refine seqE ?_
      refine .inr ⟨0, _, _, _, c_laws_markConf (laws_toConf p0) 1, (FzAs.same _), ?_⟩
      refine litE (m := 22) rfl ?_
      refine seqE ?_
      refine seqE ?_
      refine brDF hg (fun hg h4 => ?_) (fun hg h4 => ?_)
      · refine .inl (⟨_, _, c_laws_eqModel (impl_ModelNew (laws_toConf p0)) (spec_ModelNew (laws_toConf p0)), (.cons (.agg (.cons (.same _) (.cons (.same _) (.cons (.same _) (.cons (.same _) (.cons (.same _) (.cons (.same _) (.cons (.same _) (.cons (.same _) (.cons (.same _) (.cons (.same _) (.cons (.same _) (.cons (.sl _ _ _ _ (frzMap frz_Pol _)) (.cons (.same _) (.cons (.sl _ _ _ _ (frzMap frz_Trail _)) (.cons (.same _) (.cons (.same _) (.cons (.same _) (.cons (.same _) (.cons (.same _) (.cons (.same _) .nil))))))))))))))))))))) (.cons (.agg (.cons (.same _) (.cons (.same _) (.cons (.same _) (.cons (.same _) (.cons (.same _) (.cons (.same _) (.cons (.same _) (.cons (.same _) (.cons (.same _) (.cons (.same _) (.cons (.same _) (.cons (.sl _ _ _ _ (frzMap frz_Pol _)) (.cons (.same _) (.cons (.sl _ _ _ _ (frzMap frz_Trail _)) (.cons (.same _) (.cons (.same _) (.cons (.same _) (.cons (.same _) (.cons (.same _) (.cons (.same _) .nil))))))))))))))))))))) (.same _))), ?_⟩)
        refine litE (m := 23) rfl ?_
        refine brE hg (fun hg h5 => ?_) (fun hg h5 => ?_)
        · refine seqE ?_
          exact leafE hown hg
        · refine seqE ?_
          refine seqE ?_
          refine .inr ⟨0, _, _, _, c_laws_markModel (impl_ModelNew (laws_toConf p0)) 1, (FzAs.same _), ?_⟩
          refine litE (m := 24) rfl ?_
          refine seqE ?_
          refine seqE ?_
          refine .inl (⟨_, _, c_laws_heldModel (Model.mk (Conf.mk (impl_ModelNew (laws_toConf p0)).C.Stripes (impl_ModelNew (laws_toConf p0)).C.Wait (impl_ModelNew (laws_toConf p0)).C.Budget (impl_ModelNew (laws_toConf p0)).C.Cache (impl_ModelNew (laws_toConf p0)).C.Queue (impl_ModelNew (laws_toConf p0)).C.Rate (impl_ModelNew (laws_toConf p0)).C.Burst (Pol.mk (impl_ModelNew (laws_toConf p0)).C.Rule.Kind (impl_ModelNew (laws_toConf p0)).C.Rule.N (impl_ModelNew (laws_toConf p0)).C.Rule.Key (impl_ModelNew (laws_toConf p0)).C.Rule.Text (laws_markModel (impl_ModelNew (laws_toConf p0)) 1).2.C.Rule.L)) (impl_ModelNew (laws_toConf p0)).Shut (laws_markModel (impl_ModelNew (laws_toConf p0)) 1).2.Open (laws_markModel (impl_ModelNew (laws_toConf p0)) 1).2.Cache (impl_ModelNew (laws_toConf p0)).B (impl_ModelNew (laws_toConf p0)).Used) 1, (.cons (.agg (.cons (.same _) (.cons (.same _) (.cons (.same _) (.cons (.same _) (.cons (.same _) (.cons (.same _) (.cons (.same _) (.cons (.same _) (.cons (.same _) (.cons (.same _) (.cons (.same _) (.cons (.sl _ _ _ _ (frzMap frz_Pol _)) (.cons (.same _) (.cons (.sl _ _ _ _ (frzMap frz_Trail _)) (.cons (.same _) (.cons (.same _) (.cons (.same _) (.cons (.same _) (.cons (.same _) (.cons (.same _) .nil))))))))))))))))))))) (.same _)), ?_⟩)
          refine litE (m := 25) rfl ?_
          refine seqE ?_
          refine seqE ?_
          refine brD hg (fun hg h6 => ?_) (fun hg h6 => ?_)
          · refine seqE ?_
            exact leafE hown hg
          · refine seqE ?_
            refine seqE ?_
            refine brW hg (fun hg h7 => ?_) (fun hg h7 => ?_)
            · refine seqE ?_
              exact leafE hown hg
            · refine seqE ?_
              refine .inl (⟨_, _, c_laws_toConf p0 (by first | assumption | (simp only [id_laws_toConf]; assumption)), (FzAs.same _), ?_⟩)
              refine litE (m := 26) rfl ?_
              refine .inl (⟨_, _, c_impl_ModelNew (laws_toConf p0) (by first | assumption | (simp only [id_laws_toConf]; assumption)), (.cons (.agg (.cons (.same _) (.cons (.same _) (.cons (.same _) (.cons (.same _) (.cons (.same _) (.cons (.same _) (.cons (.same _) (.cons (.same _) (.cons (.same _) (.cons (.same _) (.cons (.same _) (.cons (.sl _ _ _ _ (frzMap frz_Pol _)) .nil))))))))))))) (.same _)), ?_⟩)
              refine litE (m := 28) rfl ?_
              refine litE (m := 31) rfl ?_
              refine seqE ?_
              refine seqE ?_
              refine .inl (⟨_, _, c_laws_eqModel (impl_ModelNew (laws_toConf p0)) (spec_ModelNew (laws_toConf p0)), (.cons (.agg (.cons (.same _) (.cons (.same _) (.cons (.same _) (.cons (.same _) (.cons (.same _) (.cons (.same _) (.cons (.same _) (.cons (.same _) (.cons (.same _) (.cons (.same _) (.cons (.same _) (.cons (.sl _ _ _ _ (frzMap frz_Pol _)) (.cons (.same _) (.cons (.sl _ _ _ _ (frzMap frz_Trail _)) (.cons (.same _) (.cons (.same _) (.cons (.same _) (.cons (.same _) (.cons (.same _) (.cons (.same _) .nil))))))))))))))))))))) (.cons (.agg (.cons (.same _) (.cons (.same _) (.cons (.same _) (.cons (.same _) (.cons (.same _) (.cons (.same _) (.cons (.same _) (.cons (.same _) (.cons (.same _) (.cons (.same _) (.cons (.same _) (.cons (.sl _ _ _ _ (frzMap frz_Pol _)) (.cons (.same _) (.cons (.sl _ _ _ _ (frzMap frz_Trail _)) (.cons (.same _) (.cons (.same _) (.cons (.same _) (.cons (.same _) (.cons (.same _) (.cons (.same _) .nil))))))))))))))))))))) (.same _))), ?_⟩)
              refine litE (m := 33) rfl ?_
              refine brE hg (fun hg h8 => ?_) (fun hg h8 => ?_)
              · refine seqE ?_
                exact leafE hown hg
              · refine seqE ?_
                refine seqE ?_
                refine .inl (⟨_, _, c_laws_heldModel (Model.mk (Conf.mk (impl_ModelNew (laws_toConf p0)).C.Stripes (impl_ModelNew (laws_toConf p0)).C.Wait (impl_ModelNew (laws_toConf p0)).C.Budget (impl_ModelNew (laws_toConf p0)).C.Cache (impl_ModelNew (laws_toConf p0)).C.Queue (impl_ModelNew (laws_toConf p0)).C.Rate (impl_ModelNew (laws_toConf p0)).C.Burst (Pol.mk (impl_ModelNew (laws_toConf p0)).C.Rule.Kind (impl_ModelNew (laws_toConf p0)).C.Rule.N (impl_ModelNew (laws_toConf p0)).C.Rule.Key (impl_ModelNew (laws_toConf p0)).C.Rule.Text (laws_markModel (impl_ModelNew (laws_toConf p0)) 1).2.C.Rule.L)) (impl_ModelNew (laws_toConf p0)).Shut (laws_markModel (impl_ModelNew (laws_toConf p0)) 1).2.Open (laws_markModel (impl_ModelNew (laws_toConf p0)) 1).2.Cache (impl_ModelNew (laws_toConf p0)).B (impl_ModelNew (laws_toConf p0)).Used) 1, (.cons (.agg (.cons (.same _) (.cons (.same _) (.cons (.same _) (.cons (.same _) (.cons (.same _) (.cons (.same _) (.cons (.same _) (.cons (.same _) (.cons (.same _) (.cons (.same _) (.cons (.same _) (.cons (.sl _ _ _ _ (frzMap frz_Pol _)) (.cons (.same _) (.cons (.sl _ _ _ _ (frzMap frz_Trail _)) (.cons (.same _) (.cons (.same _) (.cons (.same _) (.cons (.same _) (.cons (.same _) (.cons (.same _) .nil))))))))))))))))))))) (.same _)), ?_⟩)
                refine litE (m := 34) rfl ?_
                refine seqE ?_
                refine seqE ?_
                refine brD hg (fun hg h9 => ?_) (fun hg h9 => ?_)
                · refine seqE ?_
                  exact leafE hown hg
                · refine seqE ?_
                  refine seqE ?_
                  refine brW hg (fun hg h10 => ?_) (fun hg h10 => ?_)
                  · refine seqE ?_
                    exact leafE hown hg
                  · refine seqE ?_
                    exact leafE hown hg
      · refine seqE ?_
        exact leafE hown hg
theorem main_NameOk (s : ByteArray) : spec_NameOk s = impl_NameOk s := rfl
theorem main_PlainOk (s : ByteArray) : spec_PlainOk s = impl_PlainOk s := by
  have e : spec_PlainOk_b1 s = impl_PlainOk_b1 s := by
    funext i u
    unfold spec_PlainOk_b1 impl_PlainOk_b1 impl_within
    have h := (s.data.getD i 0).toNat_lt
    generalize (s.data.getD i 0).toNat = n at h ⊢
    rw [Go.Ev.wrap_small (n := (n : Int)) (by omega) (by omega)]
    by_cases h1 : (n : Int) < 32
    · have h2 : ¬ (n : Int) ≥ 32 := by omega
      simp [h1, h2]
    · have h2 : (n : Int) ≥ 32 := by omega
      by_cases h3 : (n : Int) > 126
      · have h4 : ¬ (n : Int) ≤ 126 := by omega
        simp [h1, h2, h3, h4]
      · have h4 : (n : Int) ≤ 126 := by omega
        simp [h1, h2, h3, h4]
  unfold spec_PlainOk impl_PlainOk
  rw [e]
theorem some_loopC {ρ : Type} {p : Nat → Bool} {r : ρ} {b : Nat → Unit → Step Unit ρ} (hb : ∀ i s, b i s = bif p i then .done r else .next ()) : ∀ (n i : Nat), ((∃ k, k < n ∧ p (i + k) = true) ∧ loopC b i () n = .done r) ∨ ((∀ k, k < n → p (i + k) = false) ∧ loopC b i () n = .fin ())
  | 0, i => .inr ⟨fun k hk => absurd hk (by omega), rfl⟩
  | n + 1, i => by
    cases hp : p i with
    | true =>
      refine .inl ⟨⟨0, by omega, hp⟩, ?_⟩
      unfold loopC
      rw [hb, hp]
      rfl
    | false =>
      have hs : loopC b i () (n + 1) = loopC b (i + 1) () n := by
        conv => lhs; unfold loopC
        rw [hb, hp]
        rfl
      rw [hs]
      rcases some_loopC hb n (i + 1) with ⟨⟨k, hk, h⟩, e⟩ | ⟨h, e⟩
      · exact .inl ⟨⟨k + 1, by omega, by rw [← h]; congr 1; omega⟩, e⟩
      · refine .inr ⟨fun k hk => ?_, e⟩
        cases k with
        | zero => exact hp
        | succ k => rw [← h k (by omega)]; congr 1; omega
theorem loopL_at {α σ ρ : Type} {f g : Nat → σ → α → Step σ ρ} : ∀ (l : List α) (i : Nat) (s : σ), (∀ k (hk : k < l.length) s, f (i + k) s l[k] = g (i + k) s l[k]) → loopL f i s l = loopL g i s l
  | [], i, s, _ => rfl
  | a :: l, i, s, h => by
    unfold loopL
    rw [show f i s a = g i s a from h 0 (by simp) s]
    cases g i s a with
    | next s' =>
      refine loopL_at l (i + 1) s' (fun k hk s => ?_)
      have := h (k + 1) (by simpa using hk) s
      rw [show i + (k + 1) = i + 1 + k by omega] at this
      simpa using this
    | _ => rfl
theorem main_polHead (p : Pol) : spec_l5One p = impl_polHeadOk p := by
  unfold spec_l5One impl_polHeadOk spec_l5One_j1 spec_l5One_j2 impl_polHeadOk_j1 impl_polHeadOk_j2 impl_polHeadOk_j3
  rw [main_NameOk, main_PlainOk, show spec_l1In p.N 0 2147483647 = impl_within p.N 0 2147483647 from rfl, show spec_l1In ((p.L.length : Nat) : Int) 1 4 = impl_within ((p.L.length : Nat) : Int) 1 4 from rfl]
  generalize (p.N == 0) = a
  generalize decide (p.Key = ByteArray.mk #[]) = b
  generalize decide (p.Text = ByteArray.mk #[]) = c
  generalize impl_within p.N 0 2147483647 = d
  generalize impl_NameOk p.Key = e
  generalize impl_PlainOk p.Text = f
  generalize (((p.L.length : Nat) : Int) == 0) = g
  generalize impl_within ((p.L.length : Nat) : Int) 1 4 = h
  generalize (((p.L.length : Nat) : Int) == 1) = k
  by_cases h1 : p.Kind = 1
  · simp only [h1]; revert a b c d e f g h k; decide
  by_cases h2 : p.Kind = 2
  · simp only [h2]; revert a b c d e f g h k; decide
  by_cases h3 : p.Kind = 3
  · simp only [h3]; revert a b c d e f g h k; decide
  by_cases h4 : p.Kind = 4
  · simp only [h4]; revert a b c d e f g h k; decide
  by_cases h5 : p.Kind = 5
  · simp only [h5]; revert a b c d e f g h k; decide
  by_cases h6 : p.Kind = 6
  · simp only [h6]; revert a b c d e f g h k; decide
  by_cases h7 : p.Kind = 7
  · simp only [h7]; revert a b c d e f g h k; decide
  by_cases h8 : p.Kind = 8
  · simp only [h8]; revert a b c d e f g h k; decide
  by_cases h9 : p.Kind = 9
  · simp only [h9]; revert a b c d e f g h k; decide
  have g1 : (p.Kind == 1) = false := by simpa using h1
  have g2 : (p.Kind == 2) = false := by simpa using h2
  have g3 : (p.Kind == 3) = false := by simpa using h3
  have g4 : (p.Kind == 4) = false := by simpa using h4
  have g5 : (p.Kind == 5) = false := by simpa using h5
  have g6 : (p.Kind == 6) = false := by simpa using h6
  have g7 : (p.Kind == 7) = false := by simpa using h7
  have g8 : (p.Kind == 8) = false := by simpa using h8
  have g9 : (p.Kind == 9) = false := by simpa using h9
  simp only [g1, g2, g3, g4, g5, g6, g7, g8, g9, cond_false, Step.get]
  revert a b c; decide
theorem polHead_len {p : Pol} (h : impl_polHeadOk p = true) : p.L.length ≤ 4 := by
  rcases Nat.lt_or_ge 4 p.L.length with hl | hl
  · exfalso
    unfold impl_polHeadOk impl_polHeadOk_j1 impl_polHeadOk_j2 impl_polHeadOk_j3 at h
    rw [show impl_within ((p.L.length : Nat) : Int) 1 4 = false from by unfold impl_within; simp; omega, show (((p.L.length : Nat) : Int) == 0) = false from by simp; intro e; rw [e] at hl; simp at hl, show (((p.L.length : Nat) : Int) == 1) = false from by simp; omega] at h
    have e1 : ∀ (z : Step Bool Bool) (a b c : Bool), Step.get (fun s3 => bif s3 then (bif a then false else false) else (bif b then (bif c then false else false) else false)) z = true → ∃ r, z = .done r := fun z a b c hz => by
      cases z with
      | done r => exact ⟨r, rfl⟩
      | next s => cases s <;> cases a <;> cases b <;> cases c <;> cases hz
      | stop s => cases s <;> cases a <;> cases b <;> cases c <;> cases hz
    simp only [Bool.cond_eq_ite] at h
    repeat' split at h
    all_goals (simp only [Step.get] at h; repeat' split at h)
    all_goals simp_all
  · exact hl
def PolAt (n : Nat) (B : Nat) (d : Int) (p : Pol) : Prop :=
  (spec_l5DeepR n p d = true ∧ ∃ c : Nat, 1 ≤ c ∧ c ≤ B ∧ spec_PolCountR n p = ((c : Nat) : Int) ∧ impl_polPartsR n p d = ((min c 13 : Nat) : Int)) ∨
  (spec_l5DeepR n p d = false ∧ impl_polPartsR n p d = 13)
theorem pol_list {n B : Nat} {d : Int} (hB : B ≤ 1000) : ∀ (l : List Pol) (i : Nat), (∀ x ∈ l, PolAt n B (IntKind.i64.wrap (d + 1)) x) → ∀ s : Nat, s < 13 →
    (loopL (spec_l5Deep_b1 (spec_l5DeepR n) d) i () l = .fin () ∧ ∃ c : Nat, c ≤ l.length * B ∧ (∀ t : Nat, t + l.length * B ≤ 1000000000 → loopL (spec_PolCount_b1 (spec_PolCountR n)) i ((t : Nat) : Int) l = .fin (((t + c : Nat) : Nat) : Int)) ∧ Fin.get (fun x => x) (loopL (impl_polParts_b1 (impl_polPartsR n) d) i ((s : Nat) : Int) l) = ((min (s + c) 13 : Nat) : Int)) ∨
    (loopL (spec_l5Deep_b1 (spec_l5DeepR n) d) i () l = .done false ∧ Fin.get (fun x => x) (loopL (impl_polParts_b1 (impl_polPartsR n) d) i ((s : Nat) : Int) l) = 13)
  | [], i, _, s, hs => .inl ⟨rfl, 0, by simp, fun t _ => rfl, by show ((s : Nat) : Int) = _; congr 1; omega⟩
  | a :: l, i, h, s, hs => by
    have hK : ∀ c : Nat, c ≤ B → spec_PolCountR n a = ((c : Nat) : Int) → ∀ t : Nat, t + (a :: l).length * B ≤ 1000000000 → loopL (spec_PolCount_b1 (spec_PolCountR n)) i ((t : Nat) : Int) (a :: l) = loopL (spec_PolCount_b1 (spec_PolCountR n)) (i + 1) (((t + c : Nat) : Nat) : Int) l := by
      intro c hc hn t ht
      rw [List.length_cons, Nat.succ_mul] at ht
      conv => lhs; unfold loopL
      simp only [spec_PolCount_b1, hn]
      rw [Go.Ev.wrap_small (n := ((t : Nat) : Int) + ((c : Nat) : Int)) (by omega) (by omega)]
      congr 1
    rcases h a (by simp) with ⟨hd, c, hc1, hcB, hn, hp⟩ | ⟨hd, hp⟩
    · have hD : loopL (spec_l5Deep_b1 (spec_l5DeepR n) d) i () (a :: l) = loopL (spec_l5Deep_b1 (spec_l5DeepR n) d) (i + 1) () l := by
        conv => lhs; unfold loopL
        simp only [spec_l5Deep_b1, hd, Bool.not_true, cond_false]
      rw [hD]
      rcases Nat.lt_or_ge (s + min c 13) 13 with hlt | hge
      · have hP : loopL (impl_polParts_b1 (impl_polPartsR n) d) i ((s : Nat) : Int) (a :: l) = loopL (impl_polParts_b1 (impl_polPartsR n) d) (i + 1) (((s + c : Nat) : Nat) : Int) l := by
          conv => lhs; unfold loopL
          simp only [impl_polParts_b1, hp]
          rw [Go.Ev.wrap_small (n := ((s : Nat) : Int) + ((min c 13 : Nat) : Int)) (by omega) (by omega), show decide (((s : Nat) : Int) + ((min c 13 : Nat) : Int) ≥ 13) = false from by simp; omega]
          simp only [cond_false]
          congr 1
          omega
        rw [hP]
        rcases pol_list hB l (i + 1) (fun x hx => h x (by simp [hx])) (s + c) (by omega) with ⟨e1, c2, b2, e2, e3⟩ | ⟨e1, e3⟩
        · refine .inl ⟨e1, c + c2, by rw [List.length_cons, Nat.succ_mul]; omega, fun t ht => ?_, ?_⟩
          · rw [hK c hcB hn t ht, e2 (t + c) (by rw [List.length_cons, Nat.succ_mul] at ht; omega), Nat.add_assoc]
          · rw [e3, Nat.add_assoc]
        · exact .inr ⟨e1, e3⟩
      · have hP : loopL (impl_polParts_b1 (impl_polPartsR n) d) i ((s : Nat) : Int) (a :: l) = .done 13 := by
          conv => lhs; unfold loopL
          simp only [impl_polParts_b1, hp]
          rw [Go.Ev.wrap_small (n := ((s : Nat) : Int) + ((min c 13 : Nat) : Int)) (by omega) (by omega), show decide (((s : Nat) : Int) + ((min c 13 : Nat) : Int) ≥ 13) = true from by simp; omega]
          rfl
        rw [hP]
        rcases pol_list hB l (i + 1) (fun x hx => h x (by simp [hx])) 0 (by omega) with ⟨e1, c2, b2, e2, e3⟩ | ⟨e1, e3⟩
        · refine .inl ⟨e1, c + c2, by rw [List.length_cons, Nat.succ_mul]; omega, fun t ht => ?_, ?_⟩
          · rw [hK c hcB hn t ht, e2 (t + c) (by rw [List.length_cons, Nat.succ_mul] at ht; omega), Nat.add_assoc]
          · show (13 : Int) = _
            omega
        · exact .inr ⟨e1, rfl⟩
    · refine .inr ⟨?_, ?_⟩
      · unfold loopL
        simp only [spec_l5Deep_b1, hd, Bool.not_false, cond_true]
        rfl
      · unfold loopL
        simp only [impl_polParts_b1, hp]
        rw [Go.Ev.wrap_small (n := ((s : Nat) : Int) + 13) (by omega) (by omega), show decide (((s : Nat) : Int) + 13 ≥ 13) = true from by simp; omega]
        rfl
theorem pol_at : ∀ (k n : Nat) (p : Pol), k ≤ 4 → Pol.dep p < n → PolAt n (5 ^ k) (5 - ((k : Nat) : Int)) p
  | k, 0, p, _, h => absurd h (by omega)
  | 0, n + 1, p, hk, h => .inr ⟨rfl, rfl⟩
  | k + 1, n + 1, p, hk, h => by
    have hd : decide ((5 - ((k + 1 : Nat) : Int)) > 4) = false := by simp; omega
    cases ho : impl_polHeadOk p with
    | false =>
      refine .inr ⟨?_, ?_⟩
      · simp only [spec_l5DeepR, hd, main_polHead, ho, Bool.not_false, cond_true, cond_false]
      · simp only [impl_polPartsR, hd, ho, Bool.not_false, cond_true, cond_false]
    | true =>
      have hl := polHead_len ho
      have hB : 5 ^ k ≤ 1000 := by
        have : 5 ^ k ≤ 5 ^ 3 := Nat.pow_le_pow_right (by omega) (by omega)
        omega
      have ew : IntKind.i64.wrap (5 - ((k + 1 : Nat) : Int) + 1) = 5 - ((k : Nat) : Int) := by rw [Go.Ev.wrap_small] <;> omega
      have hm : p.L.length * 5 ^ k ≤ 4 * 5 ^ k := Nat.mul_le_mul_right _ hl
      have hp5 : 5 ^ (k + 1) = 5 * 5 ^ k := by rw [Nat.pow_succ, Nat.mul_comm]
      have h1 : 1 ≤ 5 ^ k := Nat.pos_of_ne_zero (by simp)
      rcases pol_list (n := n) (B := 5 ^ k) (d := 5 - ((k + 1 : Nat) : Int)) hB p.L 0 (fun x hx => by rw [ew]; exact pol_at k n x (by omega) (Nat.lt_of_lt_of_le (Pol.dep_lt hx) (Nat.le_of_lt_succ h))) 1 (by omega) with ⟨e1, c, b, e2, e3⟩ | ⟨e1, e3⟩
      · refine .inl ⟨?_, 1 + c, by omega, by omega, ?_, ?_⟩
        · simp only [spec_l5DeepR, hd, main_polHead, ho, Bool.not_true, cond_false, e1, Fin.get]
        · simp only [spec_PolCountR]
          rw [show (1 : Int) = ((1 : Nat) : Int) from rfl, e2 1 (by omega)]
          rfl
        · simp only [impl_polPartsR, hd, ho, Bool.not_true, cond_false]
          exact e3
      · refine .inr ⟨?_, ?_⟩
        · simp only [spec_l5DeepR, hd, main_polHead, ho, Bool.not_true, cond_false, e1, Fin.get]
        · simp only [impl_polPartsR, hd, ho, Bool.not_true, cond_false]
          exact e3
theorem main_PolOk (p : Pol) : spec_PolOk p = impl_PolOk p := by
  unfold spec_PolOk impl_PolOk
  rcases (pol_at 4 (Pol.dep p + 1) p (by omega) (Nat.lt_succ_self _)) with ⟨hd, c, _, hc, hn, hp⟩ | ⟨hd, hp⟩
  · rw [show spec_PolCount p = ((c : Nat) : Int) from hn, show spec_l5Deep p 1 = true from hd, show impl_polParts p 1 = ((min c 13 : Nat) : Int) from hp]
    by_cases h : c ≤ 12
    · rw [show decide (((c : Nat) : Int) ≤ 12) = true from by simp; omega, show decide (((min c 13 : Nat) : Int) ≤ 12) = true from by simp; omega]; rfl
    · rw [show decide (((c : Nat) : Int) ≤ 12) = false from by simp; omega, show decide (((min c 13 : Nat) : Int) ≤ 12) = false from by simp; omega]; rfl
  · rw [show spec_l5Deep p 1 = false from hd, show impl_polParts p 1 = 13 from hp]
    cases decide (spec_PolCount p ≤ 12) <;> rfl
theorem main_ConfOk (c : Conf) : spec_ConfOk c = impl_ConfOk c := by
  unfold spec_ConfOk impl_ConfOk
  rw [main_PolOk]
  rfl
theorem ms_PolR : ∀ (n m : Nat) (l : List Pol) (left k : Int), Pol.depL l < n → Pol.depL l < m → bdS Pol.bd 9223372036854775807 l → 0 ≤ left → left ≤ 1048576 → 0 ≤ laws_szPolS (laws_szPolR m) l left → 1 ≤ k → k + 32 * left ≤ 1099511627776 →
    laws_szPolS (laws_szPolR m) l left ≤ left ∧ k ≤ (laws_markPolSR n l k).1 ∧ (laws_markPolSR n l k).1 ≤ k + 32 * (left - laws_szPolS (laws_szPolR m) l left) := by
  intro n
  induction n with
  | zero => intro m l left k h; omega
  | succ n ih =>
    intro m l left k hd1 hd2 hb h0 h1 h2 h3 h4
    have key : MkS (bdS fun M a => Pol.bd M a ∧ Pol.dep a < n + 1 ∧ Pol.dep a < m) (laws_markPolSR (n + 1)) (laws_szPolS (laws_szPolR m)) := by
      refine mkS_ok (M := fun a k => (Pol.mk k (IntKind.i64.wrap (k + 1)) (laws_markText (IntKind.i64.wrap ((IntKind.i64.wrap (k + 1)) + 1))) (laws_markText (IntKind.i64.wrap ((IntKind.i64.wrap ((IntKind.i64.wrap (k + 1)) + 1)) + 1))) ((laws_markPolSR n) a.L (IntKind.i64.wrap ((IntKind.i64.wrap ((IntKind.i64.wrap ((IntKind.i64.wrap (k + 1)) + 1)) + 1)) + 1))).2)) (N := fun a k => ((laws_markPolSR n) a.L (IntKind.i64.wrap ((IntKind.i64.wrap ((IntKind.i64.wrap ((IntKind.i64.wrap (k + 1)) + 1)) + 1)) + 1))).1) (f := laws_szPolR m) (P := fun M a => Pol.bd M a ∧ Pol.dep a < n + 1 ∧ Pol.dep a < m) ?_ (mb := laws_markPolS_b1 (laws_markPolSR n)) (fun _ _ _ => rfl) (zb := laws_szPolS_b1 (laws_szPolR m)) (fun _ _ _ => rfl) (fun _ _ => rfl) (fun _ _ => rfl)
      intro a k s hP h0 h1 h2 h3 h4
      obtain ⟨hbd, hd1, hd2⟩ := hP
      obtain ⟨b1, b2, b3⟩ := Pol.bd_eq.1 hbd
      have hdl := Pol.dep_L a
      cases m with
      | zero => omega
      | succ m =>
        unfold laws_szPolR at h2 ⊢
        rw [wrap_small (n := s - ((a.Key.size : Nat) : Int)) (by omega) (by omega)] at h2 ⊢
        rcases ilg (s - ((a.Key.size : Nat) : Int)) 0 with g1 | g1
        · rw [decide_eq_true g1] at h2; simp at h2
        rw [decide_eq_false (show ¬ s - ((a.Key.size : Nat) : Int) < 0 by omega)] at h2 ⊢
        simp only [cond_false] at h2 ⊢
        rw [wrap_small (n := s - ((a.Key.size : Nat) : Int) - ((a.Text.size : Nat) : Int)) (by omega) (by omega)] at h2 ⊢
        rcases ilg (s - ((a.Key.size : Nat) : Int) - ((a.Text.size : Nat) : Int)) 0 with g2 | g2
        · rw [decide_eq_true g2] at h2; simp at h2
        rw [decide_eq_false (show ¬ s - ((a.Key.size : Nat) : Int) - ((a.Text.size : Nat) : Int) < 0 by omega)] at h2 ⊢
        simp only [cond_false] at h2 ⊢
        rcases ilg (laws_szPolS (laws_szPolR m) a.L (s - ((a.Key.size : Nat) : Int) - ((a.Text.size : Nat) : Int))) 0 with g3 | g3
        · rw [decide_eq_true g3] at h2; simp at h2
        rw [decide_eq_false (show ¬ laws_szPolS (laws_szPolR m) a.L (s - ((a.Key.size : Nat) : Int) - ((a.Text.size : Nat) : Int)) < 0 by omega)] at h2 ⊢
        simp only [cond_false] at h2 ⊢
        have q := ih m a.L (s - ((a.Key.size : Nat) : Int) - ((a.Text.size : Nat) : Int)) (k + 1 + 1 + 1 + 1) (by omega) (by omega) b3 g2 (by omega) g3 (by omega) (by omega)
        simp (disch := omega) only [wrap_small]
        omega
    exact key l left k ⟨hb.1, fun x hx => ⟨hb.2 x hx, by have := Pol.depL_mem hx; omega, by have := Pol.depL_mem hx; omega⟩⟩ h0 h1 h2 h3 h4
theorem sz_rule (x : Conf) (left : Int) (hP : Conf.bd 9223372036854775807 x) (h0 : 0 ≤ left) (h1 : left ≤ 1048576) (h2 : 0 ≤ laws_szConf x left) :
    ∃ l2, 0 ≤ l2 ∧ l2 ≤ left ∧ 0 ≤ laws_szPolS (laws_szPolR (Pol.dep x.Rule)) x.Rule.L l2 ∧ laws_szConf x left = laws_szPolS (laws_szPolR (Pol.dep x.Rule)) x.Rule.L l2 := by
  obtain ⟨b1, b2, b3⟩ := Pol.bd_eq.1 (show Pol.bd 9223372036854775807 x.Rule from hP)
  unfold laws_szConf at h2 ⊢
  rcases ilg (laws_szPol x.Rule left) 0 with g1 | g1
  · rw [decide_eq_true g1] at h2; simp at h2
  rw [decide_eq_false (show ¬ laws_szPol x.Rule left < 0 by omega)] at h2 ⊢
  simp only [cond_false] at h2 ⊢
  unfold laws_szPol at g1 h2 ⊢
  unfold laws_szPolR at g1 h2 ⊢
  rw [wrap_small (n := left - ((x.Rule.Key.size : Nat) : Int)) (by omega) (by omega)] at g1 h2 ⊢
  rcases ilg (left - ((x.Rule.Key.size : Nat) : Int)) 0 with f1 | f1
  · rw [decide_eq_true f1] at g1; simp at g1
  rw [decide_eq_false (show ¬ left - ((x.Rule.Key.size : Nat) : Int) < 0 by omega)] at g1 h2 ⊢
  simp only [cond_false] at g1 h2 ⊢
  rw [wrap_small (n := left - ((x.Rule.Key.size : Nat) : Int) - ((x.Rule.Text.size : Nat) : Int)) (by omega) (by omega)] at g1 h2 ⊢
  rcases ilg (left - ((x.Rule.Key.size : Nat) : Int) - ((x.Rule.Text.size : Nat) : Int)) 0 with f2 | f2
  · rw [decide_eq_true f2] at g1; simp at g1
  rw [decide_eq_false (show ¬ left - ((x.Rule.Key.size : Nat) : Int) - ((x.Rule.Text.size : Nat) : Int) < 0 by omega)] at g1 h2 ⊢
  simp only [cond_false] at g1 h2 ⊢
  rcases ilg (laws_szPolS (laws_szPolR (Pol.dep x.Rule)) x.Rule.L (left - ((x.Rule.Key.size : Nat) : Int) - ((x.Rule.Text.size : Nat) : Int))) 0 with f3 | f3
  · rw [decide_eq_true f3] at g1; simp at g1
  rw [decide_eq_false (show ¬ laws_szPolS (laws_szPolR (Pol.dep x.Rule)) x.Rule.L (left - ((x.Rule.Key.size : Nat) : Int) - ((x.Rule.Text.size : Nat) : Int)) < 0 by omega)] at g1 h2 ⊢
  simp only [cond_false] at g1 h2 ⊢
  exact ⟨_, f2, by omega, f3, rfl⟩
theorem ms_Conf : MkS Conf.bd laws_markConf laws_szConf := by
  intro x left k hP h0 h1 h2 h3 h4
  obtain ⟨b1, b2, b3⟩ := Pol.bd_eq.1 (show Pol.bd 9223372036854775807 x.Rule from hP)
  obtain ⟨l2, f1, f2, f3, e⟩ := sz_rule x left hP h0 h1 h2
  rw [e]
  have hdl := Pol.dep_L x.Rule
  have q := ms_PolR (Pol.depL x.Rule.L + 1) (Pol.dep x.Rule) x.Rule.L l2 k (by omega) (by omega) b3 f1 (by omega) f3 h3 (by omega)
  unfold laws_markConf laws_markPol laws_markPolS
  simp only
  omega
theorem hm_PolR : ∀ (n m m2 : Nat) (l : List Pol) (left k : Int), Pol.depL l < n → Pol.depL l < m → Pol.depL (laws_markPolSR n l k).2 < m2 → bdS Pol.bd 9223372036854775807 l → 0 ≤ left → left ≤ 1048576 → 0 ≤ laws_szPolS (laws_szPolR m) l left → 1 ≤ k → k + 32 * left ≤ 1099511627776 →
    laws_heldPolSR m2 (laws_markPolSR n l k).2 k = (laws_markPolSR n l k).1 := by
  intro n
  induction n with
  | zero => intro m m2 l left k h; omega
  | succ n ih =>
    intro m m2 l left k hd1 hd2 hd3 hb h0 h1 h2 h3 h4
    cases m2 with
    | zero => omega
    | succ m2 =>
    have sub : ∀ (a : Pol) (k s : Int), (Pol.bd 9223372036854775807 a ∧ Pol.dep a < n + 1 ∧ Pol.dep a < m) → 0 ≤ s → s ≤ 1048576 → 0 ≤ laws_szPolR m a s → 1 ≤ k → k + 32 * s + 32 ≤ 1099511627776 →
        laws_szPolR m a s ≤ s ∧ ∃ (m' : Nat) (l2 : Int), Pol.depL a.L < n ∧ Pol.depL a.L < m' ∧ bdS Pol.bd 9223372036854775807 a.L ∧ 0 ≤ l2 ∧ l2 ≤ s ∧ 0 ≤ laws_szPolS (laws_szPolR m') a.L l2 ∧ laws_szPolR m a s = laws_szPolS (laws_szPolR m') a.L l2 := by
      intro a k s hP h0 h1 h2 h3 h4
      obtain ⟨hbd, hd1, hd2⟩ := hP
      obtain ⟨b1, b2, b3⟩ := Pol.bd_eq.1 hbd
      have hdl := Pol.dep_L a
      cases m with
      | zero => omega
      | succ m =>
        unfold laws_szPolR at h2 ⊢
        rw [wrap_small (n := s - ((a.Key.size : Nat) : Int)) (by omega) (by omega)] at h2 ⊢
        rcases ilg (s - ((a.Key.size : Nat) : Int)) 0 with g1 | g1
        · rw [decide_eq_true g1] at h2; simp at h2
        rw [decide_eq_false (show ¬ s - ((a.Key.size : Nat) : Int) < 0 by omega)] at h2 ⊢
        simp only [cond_false] at h2 ⊢
        rw [wrap_small (n := s - ((a.Key.size : Nat) : Int) - ((a.Text.size : Nat) : Int)) (by omega) (by omega)] at h2 ⊢
        rcases ilg (s - ((a.Key.size : Nat) : Int) - ((a.Text.size : Nat) : Int)) 0 with g2 | g2
        · rw [decide_eq_true g2] at h2; simp at h2
        rw [decide_eq_false (show ¬ s - ((a.Key.size : Nat) : Int) - ((a.Text.size : Nat) : Int) < 0 by omega)] at h2 ⊢
        simp only [cond_false] at h2 ⊢
        rcases ilg (laws_szPolS (laws_szPolR m) a.L (s - ((a.Key.size : Nat) : Int) - ((a.Text.size : Nat) : Int))) 0 with g3 | g3
        · rw [decide_eq_true g3] at h2; simp at h2
        rw [decide_eq_false (show ¬ laws_szPolS (laws_szPolR m) a.L (s - ((a.Key.size : Nat) : Int) - ((a.Text.size : Nat) : Int)) < 0 by omega)] at h2 ⊢
        simp only [cond_false] at h2 ⊢
        have q := ms_PolR n m a.L (s - ((a.Key.size : Nat) : Int) - ((a.Text.size : Nat) : Int)) (k + 1 + 1 + 1 + 1) (by omega) (by omega) b3 g2 (by omega) g3 (by omega) (by omega)
        exact ⟨by omega, m, _, by omega, by omega, b3, g2, by omega, g3, rfl⟩
    refine hmS_ok (M := fun a k => (Pol.mk k (IntKind.i64.wrap (k + 1)) (laws_markText (IntKind.i64.wrap ((IntKind.i64.wrap (k + 1)) + 1))) (laws_markText (IntKind.i64.wrap ((IntKind.i64.wrap ((IntKind.i64.wrap (k + 1)) + 1)) + 1))) ((laws_markPolSR n) a.L (IntKind.i64.wrap ((IntKind.i64.wrap ((IntKind.i64.wrap ((IntKind.i64.wrap (k + 1)) + 1)) + 1)) + 1))).2)) (N := fun a k => ((laws_markPolSR n) a.L (IntKind.i64.wrap ((IntKind.i64.wrap ((IntKind.i64.wrap ((IntKind.i64.wrap (k + 1)) + 1)) + 1)) + 1))).1) (f := laws_szPolR m) (P := fun M a => Pol.bd M a ∧ Pol.dep a < n + 1 ∧ Pol.dep a < m) (Q := fun x => Pol.dep x < m2 + 1) ?_ (mb := laws_markPolS_b1 (laws_markPolSR n)) (fun _ _ _ => rfl) (zb := laws_szPolS_b1 (laws_szPolR m)) (fun _ _ _ => rfl) (hb := laws_heldPolS_b1 (laws_heldPolSR m2)) ?_ (fun _ _ => rfl) (fun _ _ => rfl) (fun _ _ => rfl) l left k ⟨hb.1, fun x hx => ⟨hb.2 x hx, by have := Pol.depL_mem hx; omega, by have := Pol.depL_mem hx; omega⟩⟩ h0 h1 h2 h3 h4 (fun x hx => Nat.lt_of_le_of_lt (Pol.depL_mem hx) hd3)
    · intro a k s hP h0 h1 h2 h3 h4
      obtain ⟨p0, m', l2, p1, p2, p3, p4, p5, p6, e⟩ := sub a k s hP h0 h1 h2 h3 h4
      have q := ms_PolR n m' a.L l2 (k + 1 + 1 + 1 + 1) p1 p2 p3 p4 (by omega) p6 (by omega) (by omega)
      rw [e]
      simp (disch := omega) only [wrap_small]
      omega
    · intro i a k s hP h0 h1 h2 h3 h4 hQ
      obtain ⟨p0, m', l2, p1, p2, p3, p4, p5, p6, e⟩ := sub a k s hP h0 h1 h2 h3 h4
      have q := ms_PolR n m' a.L l2 (k + 1 + 1 + 1 + 1) p1 p2 p3 p4 (by omega) p6 (by omega) (by omega)
      simp (disch := omega) only [wrap_small] at hQ ⊢
      rw [Pol.dep_L] at hQ
      simp only at hQ
      have y := ih m' m2 a.L l2 (k + 1 + 1 + 1 + 1) p1 p2 (by omega) p3 p4 (by omega) p6 (by omega) (by omega)
      unfold laws_heldPolS_b1
      simp (disch := omega) only [wrap_small]
      rw [y, decide_eq_false (show ¬ (laws_markPolSR n a.L (k + 1 + 1 + 1 + 1)).1 < 0 by omega)]
      simp only [bne_self_eq_false, cond_false, decide_true, Bool.not_true]
end Go.Proofs.Try.Ev
