import Derived.Test.YtdjlkhhgaaddpaaGreatDoorLTabsSD
import Derived.Test.YtdjlkhhgaaddpaaGreatDoorEvCnt
import Derived.Test.YtdjlkhhgaaddpaaGreatDoorLItoaS
import Derived.Test.YtdjlkhhgaaddpaaGreatDoorEvS
import Derived.Test.YtdjlkhhgaaddpaaGreatDoorEvV
import Derived.Test.YtdjlkhhgaaddpaaGreatDoorEvW
set_option linter.unusedSectionVars false
set_option linter.unusedVariables false
set_option linter.unusedSimpArgs false
namespace Go.Proofs.Tryz.Ev
open Go Go.Ev Go.Proofs
set_option maxHeartbeats 4000000
set_option maxRecDepth 100000
structure Attr where
 Key:ByteArray
 Num:Bool
 N:Int
 Text:ByteArray
deriving DecidableEq,Inhabited
def Attr.cells (x:Attr):List T:=[.v (.string x.Key),.v (.bool x.Num),.v (.int .i64 x.N),.v (.string x.Text)]
theorem own_Attr (x:Attr):OwnL (Attr.cells x):=⟨.v _,.v _,.v _,.v _,trivial⟩
theorem frz_Attr (x:Attr):frzL (Attr.cells x)=Attr.cells x:=rfl
theorem fz_Attr (x:Attr):(Attr.cells x).map T.fz=Attr.cells x:=rfl
theorem fl_Attr (x:Attr):(Attr.cells x).map T.flat=Attr.cells x:=rfl
def Attr.bd (M:Nat) (x:Attr):Prop:=True∧True
def Attr.rg (x:Attr):Prop:=(x.Key).size≤9223372036854775807∧True∧I64 x.N∧(x.Text).size≤9223372036854775807∧True
theorem rg_Attr {x:Attr} (h:fitL (Attr.cells x)):Attr.rg x:=⟨(Nat.le_of_ble_eq_true h.1),trivial,(range_of_fit h.2.2.1),(Nat.le_of_ble_eq_true h.2.2.2.1),trivial⟩
theorem Attr.rg.N {x:Attr} (h:Attr.rg x):I64 x.N:=h.2.2.1
structure Span where
 Trace:Int
 Id:Int
 Start:Int
 End:Int
 Err:Bool
 Attrs:(List Attr)
deriving DecidableEq,Inhabited
def Span.cells (o:Bool) (x:Span):List T:=[.v (.int .i64 x.Trace),.v (.int .i64 x.Id),.v (.int .i64 x.Start),.v (.int .i64 x.End),.v (.bool x.Err),.s o 4 (List.map Attr.cells x.Attrs)]
theorem own_Span (x:Span):OwnL (Span.cells true x):=⟨.v _,.v _,.v _,.v _,.v _,ownSl own_Attr _,trivial⟩
theorem frz_Span {o:Bool} (x:Span):frzL (Span.cells o x)=Span.cells false x:=by
 show [T.v (.int .i64 x.Trace),T.v (.int .i64 x.Id),T.v (.int .i64 x.Start),T.v (.int .i64 x.End),T.v (.bool x.Err),T.s false 4 (frzLL (List.map Attr.cells x.Attrs))]=_
 rw [frzMap (f:=Attr.cells) (g:=Attr.cells) frz_Attr x.Attrs]
 rfl
theorem sh_Span (x:Span):(Span.cells false x).map T.sh=Span.cells false x:=rfl
theorem fz_Span {o:Bool} (x:Span):(Span.cells o x).map T.fz=Span.cells false x:=by
 show [T.v (.int .i64 x.Trace),T.v (.int .i64 x.Id),T.v (.int .i64 x.Start),T.v (.int .i64 x.End),T.v (.bool x.Err),T.s false 4 (frzLL (List.map Attr.cells x.Attrs))]=_
 rw [frzMap (f:=Attr.cells) (g:=Attr.cells) frz_Attr x.Attrs]
 rfl
def Span.bd (M:Nat) (x:Span):Prop:=bdS Attr.bd M x.Attrs
def Span.rg (x:Span):Prop:=I64 x.Trace∧I64 x.Id∧I64 x.Start∧I64 x.End∧True∧((x.Attrs).length≤9223372036854775807∧∀y∈x.Attrs,Attr.rg y)∧True
theorem rg_Span {o:Bool} {x:Span} (h:fitL (Span.cells o x)):Span.rg x:=⟨(range_of_fit h.1),(range_of_fit h.2.1),(range_of_fit h.2.2.1),(range_of_fit h.2.2.2.1),trivial,⟨by simpa using h.2.2.2.2.2.1.1,fun y0 hy0=>(rg_Attr (fitLL_map h.2.2.2.2.2.1.2 y0 hy0))⟩,trivial⟩
theorem Span.rg.Trace {x:Span} (h:Span.rg x):I64 x.Trace:=h.1
theorem Span.rg.Id {x:Span} (h:Span.rg x):I64 x.Id:=h.2.1
theorem Span.rg.Start {x:Span} (h:Span.rg x):I64 x.Start:=h.2.2.1
theorem Span.rg.End {x:Span} (h:Span.rg x):I64 x.End:=h.2.2.2.1
theorem Span.rg.Attrs {x:Span} (h:Span.rg x):((x.Attrs).length≤9223372036854775807∧∀y∈x.Attrs,Attr.rg y):=h.2.2.2.2.2.1
structure Cur where
 f_b:(List Int)
 f_i:Int
 f_h:Int
deriving DecidableEq,Inhabited
def Cur.cells (o:Bool) (x:Cur):List T:=[.s o 1 (List.map cU8 x.f_b),.v (.int .i64 x.f_i),.v (.int .i64 x.f_h)]
structure Pol where
 Kind:Int
 N:Int
 Key:ByteArray
 Text:ByteArray
 L:(List Pol)
instance:Inhabited Pol:=⟨⟨0,0,ByteArray.empty,ByteArray.empty,[]⟩⟩
mutual
def Pol.dep:Pol→Nat
 | ⟨y0,y1,y2,y3,y4⟩=>Pol.depL y4+1
def Pol.depL:List Pol→Nat
 | []=>0
 | p :: l=>max (Pol.dep p) (Pol.depL l)
end
theorem Pol.depL_mem:∀{l:List Pol} {x:Pol},x∈l→Pol.dep x≤Pol.depL l
 | p :: l,x,h=>by
   simp only [Pol.depL]
   rcases List.mem_cons.1 h with rfl | h
   · omega
   · have:=Pol.depL_mem h
     omega
theorem Pol.dep_lt {x y:Pol} (h:x∈y.L):Pol.dep x < Pol.dep y:=by
 obtain ⟨y0,y1,y2,y3,y4⟩:=y
 have:=Pol.depL_mem (l:=y4) h
 simp only [Pol.dep]
 omega
mutual
def Pol.cells (o:Bool):Pol→List T
 | ⟨y0,y1,y2,y3,y4⟩=>[.v (.int .i64 y0),.v (.int .i64 y1),.v (.string y2),.v (.string y3),.s o 5 (Pol.cellsL o y4)]
def Pol.cellsL (o:Bool):List Pol→List (List T)
 | []=>[]
 | p :: l=>Pol.cells o p :: Pol.cellsL o l
end
theorem Pol.cellsL_eq (o:Bool):∀l:List Pol,Pol.cellsL o l=List.map (Pol.cells o) l
 | []=>rfl
 | p :: l=>by simp only [Pol.cellsL,List.map_cons,Pol.cellsL_eq o l]
def Pol.opn (o:Bool) (x:Pol):List T:=[.v (.int .i64 x.Kind),.v (.int .i64 x.N),.v (.string x.Key),.v (.string x.Text),.s o 5 (List.map (Pol.cells o) x.L)]
theorem Pol.cells_eq (o:Bool) (x:Pol):Pol.cells o x=Pol.opn o x:=by
 obtain ⟨y0,y1,y2,y3,y4⟩:=x
 simp only [Pol.cells,Pol.opn,Pol.cellsL_eq]
theorem own_Pol (x:Pol):OwnL (Pol.cells true x):=by
 rw [Pol.cells_eq]
 exact ⟨.v _,.v _,.v _,.v _,ownSlM (fun x hx=>own_Pol x),trivial⟩
termination_by Pol.dep x
decreasing_by exact Pol.dep_lt hx
theorem ownO_Pol (x:Pol):OwnL (Pol.opn true x):=by
 rw [←Pol.cells_eq];exact own_Pol x
theorem frz_Pol {o:Bool} (x:Pol):frzL (Pol.cells o x)=Pol.cells false x:=by
 rw [Pol.cells_eq,Pol.cells_eq]
 show [T.v (.int .i64 x.Kind),T.v (.int .i64 x.N),T.v (.string x.Key),T.v (.string x.Text),T.s false 5 (frzLL (List.map (Pol.cells o) x.L))]=_
 rw [frzMapM (f:=Pol.cells o) (g:=Pol.cells false) (fun y hy=>frz_Pol y)]
 rfl
termination_by Pol.dep x
decreasing_by exact Pol.dep_lt hy
theorem sh_Pol (x:Pol):(Pol.cells false x).map T.sh=Pol.cells false x:=by rw [Pol.cells_eq];rfl
theorem fz_Pol {o:Bool} (x:Pol):(Pol.cells o x).map T.fz=Pol.cells false x:=by
 rw [Pol.cells_eq,Pol.cells_eq]
 show [T.v (.int .i64 x.Kind),T.v (.int .i64 x.N),T.v (.string x.Key),T.v (.string x.Text),T.s false 5 (frzLL (List.map (Pol.cells o) x.L))]=_
 rw [frzMap (f:=Pol.cells o) (g:=Pol.cells false) frz_Pol]
 rfl
mutual
def Pol.bd (M:Nat):Pol→Prop
 | ⟨y0,y1,y2,y3,y4⟩=>True∧True∧(y4.length≤M∧Pol.bdL M y4)
def Pol.bdL (M:Nat):List Pol→Prop
 | []=>True
 | p :: l=>Pol.bd M p∧Pol.bdL M l
end
theorem Pol.bdL_iff {M:Nat}:∀{l:List Pol},Pol.bdL M l↔∀x∈l,Pol.bd M x
 | []=>by simp [Pol.bdL]
 | p :: l=>by simp [Pol.bdL,Pol.bdL_iff (l:=l)]
theorem Pol.bd_eq {M:Nat} {x:Pol}:Pol.bd M x↔True∧True∧bdS Pol.bd M x.L:=by
 obtain ⟨y0,y1,y2,y3,y4⟩:=x
 simp only [Pol.bd,bdS,Pol.bdL_iff]
structure Conf where
 Stripes:Int
 Wait:Int
 Budget:Int
 Cache:Int
 Queue:Int
 Rate:Int
 Burst:Int
 Rule:Pol
deriving Inhabited
def Conf.cells (o:Bool) (x:Conf):List T:=[.v (.int .i64 x.Stripes),.v (.int .i64 x.Wait),.v (.int .i64 x.Budget),.v (.int .i64 x.Cache),.v (.int .i64 x.Queue),.v (.int .i64 x.Rate),.v (.int .i64 x.Burst),.v (.int .i64 x.Rule.Kind),.v (.int .i64 x.Rule.N),.v (.string x.Rule.Key),.v (.string x.Rule.Text),.s o 5 (List.map (Pol.cells o) x.Rule.L)]
theorem own_Conf (x:Conf):OwnL (Conf.cells true x):=⟨.v _,.v _,.v _,.v _,.v _,.v _,.v _,.v _,.v _,.v _,.v _,ownSl own_Pol _,trivial⟩
def Conf.bd (M:Nat) (x:Conf):Prop:=Pol.bd M x.Rule
structure Trail where
 Id:Int
 Stamp:Int
 First:Int
 Spans:(List Span)
deriving DecidableEq,Inhabited
def Trail.cells (o:Bool) (x:Trail):List T:=[.v (.int .i64 x.Id),.v (.int .i64 x.Stamp),.v (.int .i64 x.First),.s o 6 (List.map (Span.cells o) x.Spans)]
theorem own_Trail (x:Trail):OwnL (Trail.cells true x):=⟨.v _,.v _,.v _,ownSl own_Span _,trivial⟩
theorem frz_Trail {o:Bool} (x:Trail):frzL (Trail.cells o x)=Trail.cells false x:=by
 show [T.v (.int .i64 x.Id),T.v (.int .i64 x.Stamp),T.v (.int .i64 x.First),T.s false 6 (frzLL (List.map (Span.cells o) x.Spans))]=_
 rw [frzMap (f:=(Span.cells o)) (g:=(Span.cells false)) frz_Span x.Spans]
 rfl
theorem sh_Trail (x:Trail):(Trail.cells false x).map T.sh=Trail.cells false x:=rfl
theorem fz_Trail {o:Bool} (x:Trail):(Trail.cells o x).map T.fz=Trail.cells false x:=by
 show [T.v (.int .i64 x.Id),T.v (.int .i64 x.Stamp),T.v (.int .i64 x.First),T.s false 6 (frzLL (List.map (Span.cells o) x.Spans))]=_
 rw [frzMap (f:=(Span.cells o)) (g:=(Span.cells false)) frz_Span x.Spans]
 rfl
def Trail.bd (M:Nat) (x:Trail):Prop:=bdS Span.bd M x.Spans
structure Stripe where
 Held:Int
 L:(List Trail)
deriving DecidableEq,Inhabited
def Stripe.cells (o:Bool) (x:Stripe):List T:=[.v (.int .i64 x.Held),.s o 4 (List.map (Trail.cells o) x.L)]
theorem own_Stripe (x:Stripe):OwnL (Stripe.cells true x):=⟨.v _,ownSl own_Trail _,trivial⟩
theorem frz_Stripe {o:Bool} (x:Stripe):frzL (Stripe.cells o x)=Stripe.cells false x:=by
 show [T.v (.int .i64 x.Held),T.s false 4 (frzLL (List.map (Trail.cells o) x.L))]=_
 rw [frzMap (f:=(Trail.cells o)) (g:=(Trail.cells false)) frz_Trail x.L]
 rfl
theorem sh_Stripe (x:Stripe):(Stripe.cells false x).map T.sh=Stripe.cells false x:=rfl
theorem fz_Stripe {o:Bool} (x:Stripe):(Stripe.cells o x).map T.fz=Stripe.cells false x:=by
 show [T.v (.int .i64 x.Held),T.s false 4 (frzLL (List.map (Trail.cells o) x.L))]=_
 rw [frzMap (f:=(Trail.cells o)) (g:=(Trail.cells false)) frz_Trail x.L]
 rfl
def Stripe.bd (M:Nat) (x:Stripe):Prop:=bdS Trail.bd M x.L
structure Timer where
 Id:Int
 Trace:Int
 At:Int
deriving DecidableEq,Inhabited
def Timer.cells (x:Timer):List T:=[.v (.int .i64 x.Id),.v (.int .i64 x.Trace),.v (.int .i64 x.At)]
theorem own_Timer (x:Timer):OwnL (Timer.cells x):=⟨.v _,.v _,.v _,trivial⟩
theorem frz_Timer (x:Timer):frzL (Timer.cells x)=Timer.cells x:=rfl
theorem fz_Timer (x:Timer):(Timer.cells x).map T.fz=Timer.cells x:=rfl
theorem fl_Timer (x:Timer):(Timer.cells x).map T.flat=Timer.cells x:=rfl
def Timer.bd (M:Nat) (x:Timer):Prop:=True
structure Wheel where
 Now:Int
 Near:(List (List Timer))
 Far:(List (List Timer))
 Rest:(List Timer)
deriving DecidableEq,Inhabited
def Wheel.cells (o:Bool) (x:Wheel):List T:=[.v (.int .i64 x.Now),.s o 1 (List.map (cSl o 3 Timer.cells) x.Near),.s o 1 (List.map (cSl o 3 Timer.cells) x.Far),.s o 3 (List.map Timer.cells x.Rest)]
theorem own_Wheel (x:Wheel):OwnL (Wheel.cells true x):=⟨.v _,ownSl (own_cSl own_Timer) _,ownSl (own_cSl own_Timer) _,ownSl own_Timer _,trivial⟩
theorem frz_Wheel {o:Bool} (x:Wheel):frzL (Wheel.cells o x)=Wheel.cells false x:=by
 show [T.v (.int .i64 x.Now),T.s false 1 (frzLL (List.map (cSl o 3 Timer.cells) x.Near)),T.s false 1 (frzLL (List.map (cSl o 3 Timer.cells) x.Far)),T.s false 3 (frzLL (List.map Timer.cells x.Rest))]=_
 rw [frzMap (f:=(cSl o 3 Timer.cells)) (g:=(cSl false 3 Timer.cells)) (frz_cSl frz_Timer) x.Near]
 rw [frzMap (f:=(cSl o 3 Timer.cells)) (g:=(cSl false 3 Timer.cells)) (frz_cSl frz_Timer) x.Far]
 rw [frzMap (f:=Timer.cells) (g:=Timer.cells) frz_Timer x.Rest]
 rfl
def Wheel.bd (M:Nat) (x:Wheel):Prop:=bdS (bdS Timer.bd) M x.Near∧bdS (bdS Timer.bd) M x.Far∧bdS Timer.bd M x.Rest
structure Item where
 Stamp:Int
 S:Span
deriving DecidableEq,Inhabited
def Item.cells (o:Bool) (x:Item):List T:=[.v (.int .i64 x.Stamp),.v (.int .i64 x.S.Trace),.v (.int .i64 x.S.Id),.v (.int .i64 x.S.Start),.v (.int .i64 x.S.End),.v (.bool x.S.Err),.s o 4 (List.map Attr.cells x.S.Attrs)]
theorem own_Item (x:Item):OwnL (Item.cells true x):=⟨.v _,.v _,.v _,.v _,.v _,.v _,ownSl own_Attr _,trivial⟩
theorem frz_Item {o:Bool} (x:Item):frzL (Item.cells o x)=Item.cells false x:=by
 show [T.v (.int .i64 x.Stamp),T.v (.int .i64 x.S.Trace),T.v (.int .i64 x.S.Id),T.v (.int .i64 x.S.Start),T.v (.int .i64 x.S.End),T.v (.bool x.S.Err),T.s false 4 (frzLL (List.map Attr.cells x.S.Attrs))]=_
 rw [frzMap (f:=Attr.cells) (g:=Attr.cells) frz_Attr x.S.Attrs]
 rfl
theorem sh_Item (x:Item):(Item.cells false x).map T.sh=Item.cells false x:=rfl
theorem fz_Item {o:Bool} (x:Item):(Item.cells o x).map T.fz=Item.cells false x:=by
 show [T.v (.int .i64 x.Stamp),T.v (.int .i64 x.S.Trace),T.v (.int .i64 x.S.Id),T.v (.int .i64 x.S.Start),T.v (.int .i64 x.S.End),T.v (.bool x.S.Err),T.s false 4 (frzLL (List.map Attr.cells x.S.Attrs))]=_
 rw [frzMap (f:=Attr.cells) (g:=Attr.cells) frz_Attr x.S.Attrs]
 rfl
def Item.bd (M:Nat) (x:Item):Prop:=Span.bd M x.S
def Item.rg (x:Item):Prop:=I64 x.Stamp∧I64 x.S.Trace∧I64 x.S.Id∧I64 x.S.Start∧I64 x.S.End∧True∧((x.S.Attrs).length≤9223372036854775807∧∀y∈x.S.Attrs,Attr.rg y)∧True
theorem rg_Item {o:Bool} {x:Item} (h:fitL (Item.cells o x)):Item.rg x:=⟨(range_of_fit h.1),(range_of_fit h.2.1),(range_of_fit h.2.2.1),(range_of_fit h.2.2.2.1),(range_of_fit h.2.2.2.2.1),trivial,⟨by simpa using h.2.2.2.2.2.2.1.1,fun y0 hy0=>(rg_Attr (fitLL_map h.2.2.2.2.2.2.1.2 y0 hy0))⟩,trivial⟩
theorem Item.rg.Stamp {x:Item} (h:Item.rg x):I64 x.Stamp:=h.1
theorem Item.rg.S {x:Item} (h:Item.rg x):Span.rg x.S:=⟨h.2.1,h.2.2.1,h.2.2.2.1,h.2.2.2.2.1,h.2.2.2.2.2.1,h.2.2.2.2.2.2.1,trivial⟩
structure Task where
 Op:Int
 Pc:Int
 S:Span
 Trace:Int
 Stamp:Int
 Hand:(List Item)
 H:Int
deriving DecidableEq,Inhabited
def Task.cells (o:Bool) (x:Task):List T:=[.v (.int .i64 x.Op),.v (.int .i64 x.Pc),.v (.int .i64 x.S.Trace),.v (.int .i64 x.S.Id),.v (.int .i64 x.S.Start),.v (.int .i64 x.S.End),.v (.bool x.S.Err),.s o 4 (List.map Attr.cells x.S.Attrs),.v (.int .i64 x.Trace),.v (.int .i64 x.Stamp),.s o 7 (List.map (Item.cells o) x.Hand),.v (.int .i64 x.H)]
theorem own_Task (x:Task):OwnL (Task.cells true x):=⟨.v _,.v _,.v _,.v _,.v _,.v _,.v _,ownSl own_Attr _,.v _,.v _,ownSl own_Item _,.v _,trivial⟩
theorem frz_Task {o:Bool} (x:Task):frzL (Task.cells o x)=Task.cells false x:=by
 show [T.v (.int .i64 x.Op),T.v (.int .i64 x.Pc),T.v (.int .i64 x.S.Trace),T.v (.int .i64 x.S.Id),T.v (.int .i64 x.S.Start),T.v (.int .i64 x.S.End),T.v (.bool x.S.Err),T.s false 4 (frzLL (List.map Attr.cells x.S.Attrs)),T.v (.int .i64 x.Trace),T.v (.int .i64 x.Stamp),T.s false 7 (frzLL (List.map (Item.cells o) x.Hand)),T.v (.int .i64 x.H)]=_
 rw [frzMap (f:=Attr.cells) (g:=Attr.cells) frz_Attr x.S.Attrs]
 rw [frzMap (f:=(Item.cells o)) (g:=(Item.cells false)) frz_Item x.Hand]
 rfl
theorem sh_Task (x:Task):(Task.cells false x).map T.sh=Task.cells false x:=rfl
theorem fz_Task {o:Bool} (x:Task):(Task.cells o x).map T.fz=Task.cells false x:=by
 show [T.v (.int .i64 x.Op),T.v (.int .i64 x.Pc),T.v (.int .i64 x.S.Trace),T.v (.int .i64 x.S.Id),T.v (.int .i64 x.S.Start),T.v (.int .i64 x.S.End),T.v (.bool x.S.Err),T.s false 4 (frzLL (List.map Attr.cells x.S.Attrs)),T.v (.int .i64 x.Trace),T.v (.int .i64 x.Stamp),T.s false 7 (frzLL (List.map (Item.cells o) x.Hand)),T.v (.int .i64 x.H)]=_
 rw [frzMap (f:=Attr.cells) (g:=Attr.cells) frz_Attr x.S.Attrs]
 rw [frzMap (f:=(Item.cells o)) (g:=(Item.cells false)) frz_Item x.Hand]
 rfl
def Task.bd (M:Nat) (x:Task):Prop:=Span.bd M x.S∧bdS Item.bd M x.Hand
def Task.rg (x:Task):Prop:=I64 x.Op∧I64 x.Pc∧I64 x.S.Trace∧I64 x.S.Id∧I64 x.S.Start∧I64 x.S.End∧True∧((x.S.Attrs).length≤9223372036854775807∧∀y∈x.S.Attrs,Attr.rg y)∧I64 x.Trace∧I64 x.Stamp∧((x.Hand).length≤9223372036854775807∧∀y∈x.Hand,Item.rg y)∧I64 x.H∧True
theorem rg_Task {o:Bool} {x:Task} (h:fitL (Task.cells o x)):Task.rg x:=⟨(range_of_fit h.1),(range_of_fit h.2.1),(range_of_fit h.2.2.1),(range_of_fit h.2.2.2.1),(range_of_fit h.2.2.2.2.1),(range_of_fit h.2.2.2.2.2.1),trivial,⟨by simpa using h.2.2.2.2.2.2.2.1.1,fun y0 hy0=>(rg_Attr (fitLL_map h.2.2.2.2.2.2.2.1.2 y0 hy0))⟩,(range_of_fit h.2.2.2.2.2.2.2.2.1),(range_of_fit h.2.2.2.2.2.2.2.2.2.1),⟨by simpa using h.2.2.2.2.2.2.2.2.2.2.1.1,fun y0 hy0=>(rg_Item (fitLL_map h.2.2.2.2.2.2.2.2.2.2.1.2 y0 hy0))⟩,(range_of_fit h.2.2.2.2.2.2.2.2.2.2.2.1),trivial⟩
theorem Task.rg.Pc {x:Task} (h:Task.rg x):I64 x.Pc:=h.2.1
structure Deed where
 Op:Int
 Task:Int
 S:Span
 Trace:Int
 Stamp:Int
 Code:Int
 Keep:Bool
 Void:Bool
 Took:Int
 N:Int
 Forgot:Int
 Now:Int
 Inv:Int
 Lin:Int
 Res:Int
deriving DecidableEq,Inhabited
def Deed.cells (o:Bool) (x:Deed):List T:=[.v (.int .i64 x.Op),.v (.int .i64 x.Task),.v (.int .i64 x.S.Trace),.v (.int .i64 x.S.Id),.v (.int .i64 x.S.Start),.v (.int .i64 x.S.End),.v (.bool x.S.Err),.s o 4 (List.map Attr.cells x.S.Attrs),.v (.int .i64 x.Trace),.v (.int .i64 x.Stamp),.v (.int .i64 x.Code),.v (.bool x.Keep),.v (.bool x.Void),.v (.int .i64 x.Took),.v (.int .i64 x.N),.v (.int .i64 x.Forgot),.v (.int .i64 x.Now),.v (.int .i64 x.Inv),.v (.int .i64 x.Lin),.v (.int .i64 x.Res)]
theorem own_Deed (x:Deed):OwnL (Deed.cells true x):=⟨.v _,.v _,.v _,.v _,.v _,.v _,.v _,ownSl own_Attr _,.v _,.v _,.v _,.v _,.v _,.v _,.v _,.v _,.v _,.v _,.v _,.v _,trivial⟩
theorem frz_Deed {o:Bool} (x:Deed):frzL (Deed.cells o x)=Deed.cells false x:=by
 show [T.v (.int .i64 x.Op),T.v (.int .i64 x.Task),T.v (.int .i64 x.S.Trace),T.v (.int .i64 x.S.Id),T.v (.int .i64 x.S.Start),T.v (.int .i64 x.S.End),T.v (.bool x.S.Err),T.s false 4 (frzLL (List.map Attr.cells x.S.Attrs)),T.v (.int .i64 x.Trace),T.v (.int .i64 x.Stamp),T.v (.int .i64 x.Code),T.v (.bool x.Keep),T.v (.bool x.Void),T.v (.int .i64 x.Took),T.v (.int .i64 x.N),T.v (.int .i64 x.Forgot),T.v (.int .i64 x.Now),T.v (.int .i64 x.Inv),T.v (.int .i64 x.Lin),T.v (.int .i64 x.Res)]=_
 rw [frzMap (f:=Attr.cells) (g:=Attr.cells) frz_Attr x.S.Attrs]
 rfl
theorem sh_Deed (x:Deed):(Deed.cells false x).map T.sh=Deed.cells false x:=rfl
theorem fz_Deed {o:Bool} (x:Deed):(Deed.cells o x).map T.fz=Deed.cells false x:=by
 show [T.v (.int .i64 x.Op),T.v (.int .i64 x.Task),T.v (.int .i64 x.S.Trace),T.v (.int .i64 x.S.Id),T.v (.int .i64 x.S.Start),T.v (.int .i64 x.S.End),T.v (.bool x.S.Err),T.s false 4 (frzLL (List.map Attr.cells x.S.Attrs)),T.v (.int .i64 x.Trace),T.v (.int .i64 x.Stamp),T.v (.int .i64 x.Code),T.v (.bool x.Keep),T.v (.bool x.Void),T.v (.int .i64 x.Took),T.v (.int .i64 x.N),T.v (.int .i64 x.Forgot),T.v (.int .i64 x.Now),T.v (.int .i64 x.Inv),T.v (.int .i64 x.Lin),T.v (.int .i64 x.Res)]=_
 rw [frzMap (f:=Attr.cells) (g:=Attr.cells) frz_Attr x.S.Attrs]
 rfl
def Deed.bd (M:Nat) (x:Deed):Prop:=Span.bd M x.S
def Deed.rg (x:Deed):Prop:=I64 x.Op∧I64 x.Task∧I64 x.S.Trace∧I64 x.S.Id∧I64 x.S.Start∧I64 x.S.End∧True∧((x.S.Attrs).length≤9223372036854775807∧∀y∈x.S.Attrs,Attr.rg y)∧I64 x.Trace∧I64 x.Stamp∧I64 x.Code∧True∧True∧I64 x.Took∧I64 x.N∧I64 x.Forgot∧I64 x.Now∧I64 x.Inv∧I64 x.Lin∧I64 x.Res∧True
theorem rg_Deed {o:Bool} {x:Deed} (h:fitL (Deed.cells o x)):Deed.rg x:=⟨(range_of_fit h.1),(range_of_fit h.2.1),(range_of_fit h.2.2.1),(range_of_fit h.2.2.2.1),(range_of_fit h.2.2.2.2.1),(range_of_fit h.2.2.2.2.2.1),trivial,⟨by simpa using h.2.2.2.2.2.2.2.1.1,fun y0 hy0=>(rg_Attr (fitLL_map h.2.2.2.2.2.2.2.1.2 y0 hy0))⟩,(range_of_fit h.2.2.2.2.2.2.2.2.1),(range_of_fit h.2.2.2.2.2.2.2.2.2.1),(range_of_fit h.2.2.2.2.2.2.2.2.2.2.1),trivial,trivial,(range_of_fit h.2.2.2.2.2.2.2.2.2.2.2.2.2.1),(range_of_fit h.2.2.2.2.2.2.2.2.2.2.2.2.2.2.1),(range_of_fit h.2.2.2.2.2.2.2.2.2.2.2.2.2.2.2.1),(range_of_fit h.2.2.2.2.2.2.2.2.2.2.2.2.2.2.2.2.1),(range_of_fit h.2.2.2.2.2.2.2.2.2.2.2.2.2.2.2.2.2.1),(range_of_fit h.2.2.2.2.2.2.2.2.2.2.2.2.2.2.2.2.2.2.1),(range_of_fit h.2.2.2.2.2.2.2.2.2.2.2.2.2.2.2.2.2.2.2.1),trivial⟩
theorem Deed.rg.S {x:Deed} (h:Deed.rg x):Span.rg x.S:=⟨h.2.2.1,h.2.2.2.1,h.2.2.2.2.1,h.2.2.2.2.2.1,h.2.2.2.2.2.2.1,h.2.2.2.2.2.2.2.1,trivial⟩
theorem Deed.rg.Trace {x:Deed} (h:Deed.rg x):I64 x.Trace:=h.2.2.2.2.2.2.2.2.1
theorem Deed.rg.N {x:Deed} (h:Deed.rg x):I64 x.N:=h.2.2.2.2.2.2.2.2.2.2.2.2.2.2.1
structure Bucket where
 Rate:Int
 Burst:Int
 Tokens:Int
 At:Int
deriving DecidableEq,Inhabited
def Bucket.cells (x:Bucket):List T:=[.v (.int .i64 x.Rate),.v (.int .i64 x.Burst),.v (.int .i64 x.Tokens),.v (.int .i64 x.At)]
theorem own_Bucket (x:Bucket):OwnL (Bucket.cells x):=⟨.v _,.v _,.v _,.v _,trivial⟩
structure Verdict where
 Trace:Int
 Stamp:Int
 Keep:Bool
deriving DecidableEq,Inhabited
def Verdict.cells (x:Verdict):List T:=[.v (.int .i64 x.Trace),.v (.int .i64 x.Stamp),.v (.bool x.Keep)]
theorem own_Verdict (x:Verdict):OwnL (Verdict.cells x):=⟨.v _,.v _,.v _,trivial⟩
theorem frz_Verdict (x:Verdict):frzL (Verdict.cells x)=Verdict.cells x:=rfl
theorem fz_Verdict (x:Verdict):(Verdict.cells x).map T.fz=Verdict.cells x:=rfl
theorem fl_Verdict (x:Verdict):(Verdict.cells x).map T.flat=Verdict.cells x:=rfl
def Verdict.bd (M:Nat) (x:Verdict):Prop:=True
structure World where
 C:Conf
 Time:Int
 Shut:Bool
 St:(List Stripe)
 RuleHeld:Int
 B:Bucket
 Cache:(List Verdict)
 Used:Int
 W:Wheel
 Due:(List Timer)
 Queue:(List Item)
 Out:(List Item)
 Tasks:(List Task)
 Deeds:(List Deed)
 Next:Int
deriving Inhabited
def World.cells (o:Bool) (x:World):List T:=[.v (.int .i64 x.C.Stripes),.v (.int .i64 x.C.Wait),.v (.int .i64 x.C.Budget),.v (.int .i64 x.C.Cache),.v (.int .i64 x.C.Queue),.v (.int .i64 x.C.Rate),.v (.int .i64 x.C.Burst),.v (.int .i64 x.C.Rule.Kind),.v (.int .i64 x.C.Rule.N),.v (.string x.C.Rule.Key),.v (.string x.C.Rule.Text),.s o 5 (List.map (Pol.cells o) x.C.Rule.L),.v (.int .i64 x.Time),.v (.bool x.Shut),.s o 2 (List.map (Stripe.cells o) x.St),.v (.int .i64 x.RuleHeld),.v (.int .i64 x.B.Rate),.v (.int .i64 x.B.Burst),.v (.int .i64 x.B.Tokens),.v (.int .i64 x.B.At),.s o 3 (List.map Verdict.cells x.Cache),.v (.int .i64 x.Used),.v (.int .i64 x.W.Now),.s o 1 (List.map (cSl o 3 Timer.cells) x.W.Near),.s o 1 (List.map (cSl o 3 Timer.cells) x.W.Far),.s o 3 (List.map Timer.cells x.W.Rest),.s o 3 (List.map Timer.cells x.Due),.s o 7 (List.map (Item.cells o) x.Queue),.s o 7 (List.map (Item.cells o) x.Out),.s o 12 (List.map (Task.cells o) x.Tasks),.s o 20 (List.map (Deed.cells o) x.Deeds),.v (.int .i64 x.Next)]
theorem own_World (x:World):OwnL (World.cells true x):=⟨.v _,.v _,.v _,.v _,.v _,.v _,.v _,.v _,.v _,.v _,.v _,ownSl own_Pol _,.v _,.v _,ownSl own_Stripe _,.v _,.v _,.v _,.v _,.v _,ownSl own_Verdict _,.v _,.v _,ownSl (own_cSl own_Timer) _,ownSl (own_cSl own_Timer) _,ownSl own_Timer _,ownSl own_Timer _,ownSl own_Item _,ownSl own_Item _,ownSl own_Task _,ownSl own_Deed _,.v _,trivial⟩
theorem frz_World {o:Bool} (x:World):frzL (World.cells o x)=World.cells false x:=by
 show [T.v (.int .i64 x.C.Stripes),T.v (.int .i64 x.C.Wait),T.v (.int .i64 x.C.Budget),T.v (.int .i64 x.C.Cache),T.v (.int .i64 x.C.Queue),T.v (.int .i64 x.C.Rate),T.v (.int .i64 x.C.Burst),T.v (.int .i64 x.C.Rule.Kind),T.v (.int .i64 x.C.Rule.N),T.v (.string x.C.Rule.Key),T.v (.string x.C.Rule.Text),T.s false 5 (frzLL (List.map (Pol.cells o) x.C.Rule.L)),T.v (.int .i64 x.Time),T.v (.bool x.Shut),T.s false 2 (frzLL (List.map (Stripe.cells o) x.St)),T.v (.int .i64 x.RuleHeld),T.v (.int .i64 x.B.Rate),T.v (.int .i64 x.B.Burst),T.v (.int .i64 x.B.Tokens),T.v (.int .i64 x.B.At),T.s false 3 (frzLL (List.map Verdict.cells x.Cache)),T.v (.int .i64 x.Used),T.v (.int .i64 x.W.Now),T.s false 1 (frzLL (List.map (cSl o 3 Timer.cells) x.W.Near)),T.s false 1 (frzLL (List.map (cSl o 3 Timer.cells) x.W.Far)),T.s false 3 (frzLL (List.map Timer.cells x.W.Rest)),T.s false 3 (frzLL (List.map Timer.cells x.Due)),T.s false 7 (frzLL (List.map (Item.cells o) x.Queue)),T.s false 7 (frzLL (List.map (Item.cells o) x.Out)),T.s false 12 (frzLL (List.map (Task.cells o) x.Tasks)),T.s false 20 (frzLL (List.map (Deed.cells o) x.Deeds)),T.v (.int .i64 x.Next)]=_
 rw [frzMap (f:=(Pol.cells o)) (g:=(Pol.cells false)) frz_Pol x.C.Rule.L]
 rw [frzMap (f:=(Stripe.cells o)) (g:=(Stripe.cells false)) frz_Stripe x.St]
 rw [frzMap (f:=Verdict.cells) (g:=Verdict.cells) frz_Verdict x.Cache]
 rw [frzMap (f:=(cSl o 3 Timer.cells)) (g:=(cSl false 3 Timer.cells)) (frz_cSl frz_Timer) x.W.Near]
 rw [frzMap (f:=(cSl o 3 Timer.cells)) (g:=(cSl false 3 Timer.cells)) (frz_cSl frz_Timer) x.W.Far]
 rw [frzMap (f:=Timer.cells) (g:=Timer.cells) frz_Timer x.W.Rest]
 rw [frzMap (f:=Timer.cells) (g:=Timer.cells) frz_Timer x.Due]
 rw [frzMap (f:=(Item.cells o)) (g:=(Item.cells false)) frz_Item x.Queue]
 rw [frzMap (f:=(Item.cells o)) (g:=(Item.cells false)) frz_Item x.Out]
 rw [frzMap (f:=(Task.cells o)) (g:=(Task.cells false)) frz_Task x.Tasks]
 rw [frzMap (f:=(Deed.cells o)) (g:=(Deed.cells false)) frz_Deed x.Deeds]
 rfl
def World.bd (M:Nat) (x:World):Prop:=Conf.bd M x.C∧bdS Stripe.bd M x.St∧bdS Verdict.bd M x.Cache∧Wheel.bd M x.W∧bdS Timer.bd M x.Due∧bdS Item.bd M x.Queue∧bdS Item.bd M x.Out∧bdS Task.bd M x.Tasks∧bdS Deed.bd M x.Deeds
structure Event where
 Kind:Int
 K:Int
 S:Span
deriving DecidableEq,Inhabited
def Event.cells (o:Bool) (x:Event):List T:=[.v (.int .i64 x.Kind),.v (.int .i64 x.K),.v (.int .i64 x.S.Trace),.v (.int .i64 x.S.Id),.v (.int .i64 x.S.Start),.v (.int .i64 x.S.End),.v (.bool x.S.Err),.s o 4 (List.map Attr.cells x.S.Attrs)]
theorem frz_Event {o:Bool} (x:Event):frzL (Event.cells o x)=Event.cells false x:=by
 show [T.v (.int .i64 x.Kind),T.v (.int .i64 x.K),T.v (.int .i64 x.S.Trace),T.v (.int .i64 x.S.Id),T.v (.int .i64 x.S.Start),T.v (.int .i64 x.S.End),T.v (.bool x.S.Err),T.s false 4 (frzLL (List.map Attr.cells x.S.Attrs))]=_
 rw [frzMap (f:=Attr.cells) (g:=Attr.cells) frz_Attr x.S.Attrs]
 rfl
theorem sh_Event (x:Event):(Event.cells false x).map T.sh=Event.cells false x:=rfl
theorem fz_Event {o:Bool} (x:Event):(Event.cells o x).map T.fz=Event.cells false x:=by
 show [T.v (.int .i64 x.Kind),T.v (.int .i64 x.K),T.v (.int .i64 x.S.Trace),T.v (.int .i64 x.S.Id),T.v (.int .i64 x.S.Start),T.v (.int .i64 x.S.End),T.v (.bool x.S.Err),T.s false 4 (frzLL (List.map Attr.cells x.S.Attrs))]=_
 rw [frzMap (f:=Attr.cells) (g:=Attr.cells) frz_Attr x.S.Attrs]
 rfl
structure Count where
 Came:Int
 Went:Int
 Moving:Int
 Held:Int
 Dropped:Int
deriving DecidableEq,Inhabited
def Count.cells (x:Count):List T:=[.v (.int .i64 x.Came),.v (.int .i64 x.Went),.v (.int .i64 x.Moving),.v (.int .i64 x.Held),.v (.int .i64 x.Dropped)]
theorem own_Count (x:Count):OwnL (Count.cells x):=⟨.v _,.v _,.v _,.v _,.v _,trivial⟩
def Count.rg (x:Count):Prop:=I64 x.Came∧I64 x.Went∧I64 x.Moving∧I64 x.Held∧I64 x.Dropped∧True
theorem rg_Count {x:Count} (h:fitL (Count.cells x)):Count.rg x:=⟨(range_of_fit h.1),(range_of_fit h.2.1),(range_of_fit h.2.2.1),(range_of_fit h.2.2.2.1),(range_of_fit h.2.2.2.2.1),trivial⟩
theorem Count.rg.Came {x:Count} (h:Count.rg x):I64 x.Came:=h.1
theorem Count.rg.Went {x:Count} (h:Count.rg x):I64 x.Went:=h.2.1
theorem Count.rg.Moving {x:Count} (h:Count.rg x):I64 x.Moving:=h.2.2.1
theorem Count.rg.Held {x:Count} (h:Count.rg x):I64 x.Held:=h.2.2.2.1
theorem Count.rg.Dropped {x:Count} (h:Count.rg x):I64 x.Dropped:=h.2.2.2.2.1
def Wheel.cv (q0 q1 q2:Option Value) (x:Wheel):List T:=[.v (.int .i64 x.Now),opq q0 (.s true 1 (List.map (cSl true 3 Timer.cells) x.Near)),opq q1 (.s true 1 (List.map (cSl true 3 Timer.cells) x.Far)),opq q2 (.s true 3 (List.map Timer.cells x.Rest))]
theorem Wheel.cvo (x:Wheel):FzXs (Wheel.cells true x) (Wheel.cv none none none x):=(.cons (.same _) (.cons (.same _) (.cons (.same _) (.cons (.same _) (.same _)))))
def World.cv (q0 q1 q2 q3 q4 q5 q6:Option Value) (x:World):List T:=[.v (.int .i64 x.C.Stripes),.v (.int .i64 x.C.Wait),.v (.int .i64 x.C.Budget),.v (.int .i64 x.C.Cache),.v (.int .i64 x.C.Queue),.v (.int .i64 x.C.Rate),.v (.int .i64 x.C.Burst),.v (.int .i64 x.C.Rule.Kind),.v (.int .i64 x.C.Rule.N),.v (.string x.C.Rule.Key),.v (.string x.C.Rule.Text),.s false 5 (List.map (Pol.cells false) x.C.Rule.L),.v (.int .i64 x.Time),.v (.bool x.Shut),opq q0 (.s true 2 (List.map (Stripe.cells false) x.St)),.v (.int .i64 x.RuleHeld),.v (.int .i64 x.B.Rate),.v (.int .i64 x.B.Burst),.v (.int .i64 x.B.Tokens),.v (.int .i64 x.B.At),opq q1 (.s true 3 (List.map Verdict.cells x.Cache)),.v (.int .i64 x.Used),.v (.int .i64 x.W.Now),.s false 1 (List.map (cSl false 3 Timer.cells) x.W.Near),.s false 1 (List.map (cSl false 3 Timer.cells) x.W.Far),.s false 3 (List.map Timer.cells x.W.Rest),opq q2 (.s true 3 (List.map Timer.cells x.Due)),opq q3 (.s true 7 (List.map (Item.cells false) x.Queue)),opq q4 (.s true 7 (List.map (Item.cells false) x.Out)),opq q5 (.s true 12 (List.map (Task.cells false) x.Tasks)),opq q6 (.s true 20 (List.map (Deed.cells false) x.Deeds)),.v (.int .i64 x.Next)]
theorem World.cvo (x:World):FzXs (World.cells true x) (World.cv none none none none none none none x):=(.cons (.same _) (.cons (.same _) (.cons (.same _) (.cons (.same _) (.cons (.same _) (.cons (.same _) (.cons (.same _) (.cons (.same _) (.cons (.same _) (.cons (.same _) (.cons (.same _) (.cons (.sl _ _ _ _ (frzMap frz_Pol _)) (.cons (.same _) (.cons (.same _) (.cons (.inn _ _ _ (frzMap frz_Stripe _)) (.cons (.same _) (.cons (.same _) (.cons (.same _) (.cons (.same _) (.cons (.same _) (.cons (.same _) (.cons (.same _) (.cons (.same _) (.cons (.sl _ _ _ _ (frzMap (frz_cSl frz_Timer) _)) (.cons (.sl _ _ _ _ (frzMap (frz_cSl frz_Timer) _)) (.cons (.sl _ _ _ _ (frzMap frz_Timer _)) (.cons (.same _) (.cons (.inn _ _ _ (frzMap frz_Item _)) (.cons (.inn _ _ _ (frzMap frz_Item _)) (.cons (.inn _ _ _ (frzMap frz_Task _)) (.cons (.inn _ _ _ (frzMap frz_Deed _)) (.cons (.same _) (.same _)))))))))))))))))))))))))))))))))
theorem Attr_mono {n m:Nat} (hm:n≤m) (z:Attr) (h:Attr.bd n z):Attr.bd m z:=h
theorem Span_mono {n m:Nat} (hm:n≤m) (y:Span) (h:Span.bd n y):Span.bd m y:=bdS.mono h hm (Attr_mono hm)
theorem Trail_mono {n m:Nat} (hm:n≤m) (x:Trail) (h:Trail.bd n x):Trail.bd m x:=bdS.mono h hm (Span_mono hm)
theorem bdT_spans {n:Nat} {l:List Trail} (h:bdS Trail.bd n l) (k:Nat):(l[k]?.getD default).Spans.length≤n:=by
 cases hk:l[k]? with
 | none=>exact Nat.zero_le _
 | some x=>exact (h.2 x (List.mem_of_getElem? hk)).1
theorem Item_mono {n m:Nat} (hm:n≤m) (x:Item) (h:Item.bd n x):Item.bd m x:=Span_mono hm _ h
theorem Stripe_mono {n m:Nat} (hm:n≤m) (x:Stripe) (h:Stripe.bd n x):Stripe.bd m x:=bdS.mono h hm (Trail_mono hm)
theorem Task_mono {n m:Nat} (hm:n≤m) (x:Task) (h:Task.bd n x):Task.bd m x:=⟨Span_mono hm _ h.1,bdS.mono h.2 hm (Item_mono hm)⟩
theorem Deed_mono {n m:Nat} (hm:n≤m) (x:Deed) (h:Deed.bd n x):Deed.bd m x:=Span_mono hm _ h
theorem TimerL_mono {n m:Nat} (hm:n≤m) (l:List Timer) (h:bdS Timer.bd n l):bdS Timer.bd m l:=bdS.mono h hm (fun _ _=>trivial)
theorem Wheel_mono {n m:Nat} (hm:n≤m) {w:Wheel} (h:Wheel.bd n w):Wheel.bd m w:=⟨bdS.mono h.1 hm (TimerL_mono hm),bdS.mono h.2.1 hm (TimerL_mono hm),TimerL_mono hm _ h.2.2⟩
theorem bdS_set {α:Type} {P:Nat→α→Prop} {n:Nat} {l:List α} {k:Nat} {x:α} (h:bdS P n l) (hx:P n x):bdS P n (l.set k x) :=
 ⟨by have:=h.1;rw [List.length_set];exact this,fun y hy=>by
   rcases List.mem_or_eq_of_mem_set hy with hy | rfl
   · exact h.2 y hy
   · exact hx⟩
theorem bdS_app {α:Type} {P:Nat→α→Prop} {n m:Nat} {l:List α} {x:α} (h:bdS P n l) (hm:n+1≤m) (hP:∀y,P n y→P m y) (hx:P m x):bdS P m (l++[x]) :=
 ⟨by have:=h.1;simp only [List.length_append,List.length_cons,List.length_nil];omega,fun y hy=>by
   rcases List.mem_append.1 hy with hy | hy
   · exact hP y (h.2 y hy)
   · obtain rfl:=List.mem_singleton.1 hy;exact hx⟩
theorem bdS_get {α:Type} [Inhabited α] {P:Nat→α→Prop} {n:Nat} {l:List α} (h:bdS P n l) (hd:P n default) (k:Nat):P n (l[k]?.getD default):=by
 cases hk:l[k]? with
 | none=>exact hd
 | some x=>exact h.2 x (List.mem_of_getElem? hk)
structure WI (M:Nat) (w:World):Prop where
 tl:w.Tasks.length=5
 sl:1≤w.St.length∧w.St.length≤16
 t:∀t∈w.Tasks,t.Op≠0→0≤t.H∧t.H < ((w.Deeds.length:Nat):Int)
 h:∀t∈w.Tasks,t.Op=2→¬(t.Pc=0∨t.Pc=1∨t.Pc=2)→t.Hand≠[]
 c:Conf.bd 1000 w.C
 s:bdS Stripe.bd M w.St
 v:bdS Verdict.bd M w.Cache
 wb:Wheel.bd 48 w.W
 d:bdS Timer.bd M w.Due
 q:bdS Item.bd M w.Queue
 o:bdS Item.bd M w.Out
 tb:bdS Task.bd M w.Tasks
 db:bdS Deed.bd M w.Deeds
theorem WI.mono {n m:Nat} {w:World} (hm:n≤m) (h:WI n w):WI m w :=
 ⟨h.tl,h.sl,h.t,h.h,h.c,bdS.mono h.s hm (Stripe_mono hm),bdS.mono h.v hm (fun _ _=>trivial),h.wb,bdS.mono h.d hm (fun _ _=>trivial),bdS.mono h.q hm (Item_mono hm),bdS.mono h.o hm (Item_mono hm),bdS.mono h.tb hm (Task_mono hm),bdS.mono h.db hm (Deed_mono hm)⟩
theorem Pol_mono {n m:Nat} (hm:n≤m):∀p:Pol,Pol.bd n p→Pol.bd m p:=by
 have key:∀(k:Nat) (p:Pol),Pol.dep p < k→Pol.bd n p→Pol.bd m p:=by
  intro k
  induction k with
  | zero=>intro p h;omega
  | succ k ih =>
    intro p hk h
    have h:=Pol.bd_eq.1 h
    exact Pol.bd_eq.2 ⟨trivial,trivial,Nat.le_trans h.2.2.1 hm,fun y hy=>ih y (by have:=Pol.dep_lt hy;omega) (h.2.2.2 y hy)⟩
 exact fun p=>key _ p (Nat.lt_succ_self _)
theorem Conf_mono {n m:Nat} (hm:n≤m) {c:Conf} (h:Conf.bd n c):Conf.bd m c:=Pol_mono hm _ h
theorem loopL_pass {α σ:Type} {b:Nat→σ→α→Step σ Bool} {k:σ→Bool} {P:α→Prop} (hd:∀i s a r,b i s a=.done r→r=false) (hs:∀i s a v,b i s a≠.stop v) (hn:∀i s a v,b i s a=.next v→P a):∀(l:List α) (i:Nat) (s:σ),Fin.get k (loopL b i s l)=true→(∀a∈l,P a)∧∃v,loopL b i s l=.fin v∧k v=true
 | [],i,s,h=>⟨fun a ha=>(by cases ha),s,rfl,h⟩
 | a :: l,i,s,h=>by
   unfold loopL at h ⊢
   cases e:b i s a with
   | next v =>
     rw [e] at h
     obtain ⟨h1,h2⟩:=loopL_pass hd hs hn l (i+1) v h
     exact ⟨fun x hx=>by rcases List.mem_cons.1 hx with rfl | hx;exact hn _ _ _ _ e;exact h1 x hx,h2⟩
   | stop v=>exact absurd e (hs _ _ _ _)
   | done r=>rw [e] at h;have:=hd _ _ _ _ e;subst this;cases h
theorem loopC_pass {σ:Type} {b:Nat→σ→Step σ Bool} {k:σ→Bool} {P:Nat→Prop} (hd:∀i s r,b i s=.done r→r=false) (hs:∀i s v,b i s≠.stop v) (hn:∀i s v,b i s=.next v→P i):∀(n i:Nat) (s:σ),Fin.get k (loopC b i s n)=true→(∀j,i≤j→j < i+n→P j)∧∃v,loopC b i s n=.fin v∧k v=true
 | 0,i,s,h=>⟨fun j h1 h2=>by omega,s,rfl,h⟩
 | n+1,i,s,h=>by
   unfold loopC at h ⊢
   cases e:b i s with
   | next v =>
     rw [e] at h
     obtain ⟨h1,h2⟩:=loopC_pass hd hs hn n (i+1) v h
     exact ⟨fun j hj hj2=>by
      by_cases hji:j=i
      · subst hji;exact hn _ _ _ e
      · exact h1 j (by omega) (by omega),h2⟩
   | stop v=>exact absurd e (hs _ _ _)
   | done r=>rw [e] at h;have:=hd _ _ _ e;subst this;cases h
theorem len_flatMap_mem {α:Type}:∀{l:List (List α)} {x:List α},x∈l→x.length≤(l.flatMap id).length
 | y :: l,x,h=>by
   rw [List.flatMap_cons,List.length_append]
   rcases List.mem_cons.1 h with rfl | h
   · exact Nat.le_add_right _ _
   · have:=len_flatMap_mem h;omega
theorem bif_eq {β:Type} {c:Bool} {a b z:β} {Q:Prop} (ha:c=true→a=z→Q) (hb:c=false→b=z→Q):(bif c then a else b)=z→Q:=by
 cases c
 · exact hb rfl
 · exact ha rfl
theorem bdS_setW {n:Nat} {l:List (List Timer)} {k:Nat} {x:List Timer} (h:bdS (bdS Timer.bd) n l) (hx:x.length≤n):bdS (bdS Timer.bd) n (l.set k x):=bdS_set h ⟨hx,fun _ _=>trivial⟩
theorem nf {b:Bool} (h:(!b)=false):b=true:=by cases b;cases h;rfl
theorem bif_keep {σ ρ:Type} {c:Bool} {A B:Step σ ρ} {P R:σ→Prop} {Q:ρ→Prop} (hA:(∀v,A=.next v→P v)∧(∀v,A=.stop v→R v)∧∀r,A=.done r→Q r) (hB:(∀v,B=.next v→P v)∧(∀v,B=.stop v→R v)∧∀r,B=.done r→Q r) :
 (∀v,(bif c then A else B)=.next v→P v)∧(∀v,(bif c then A else B)=.stop v→R v)∧∀r,(bif c then A else B)=.done r→Q r:=by
 cases c
 · exact hB
 · exact hA
theorem nx_keep {σ ρ:Type} {P R:σ→Prop} {Q:ρ→Prop} {s:σ} (h:P s):(∀v,(Step.next s:Step σ ρ)=.next v→P v)∧(∀v,(Step.next s:Step σ ρ)=.stop v→R v)∧∀r,(Step.next s:Step σ ρ)=.done r→Q r :=
 ⟨fun v e=>by cases e;exact h,fun v e=>(by cases e),fun r e=>(by cases e)⟩
theorem st_keep {σ ρ:Type} {P R:σ→Prop} {Q:ρ→Prop} {s:σ} (h:R s):(∀v,(Step.stop s:Step σ ρ)=.next v→P v)∧(∀v,(Step.stop s:Step σ ρ)=.stop v→R v)∧∀r,(Step.stop s:Step σ ρ)=.done r→Q r :=
 ⟨fun v e=>(by cases e),fun v e=>by cases e;exact h,fun r e=>(by cases e)⟩
theorem loopC_keep {σ ρ:Type} {b:Nat→σ→Step σ ρ} {P:σ→Prop} {Q:ρ→Prop} (h:∀i s,P s→(∀v,b i s=.next v→P v)∧(∀v,b i s=.stop v→P v)∧∀r,b i s=.done r→Q r):∀(n i:Nat) (s:σ),P s→(∀v,loopC b i s n=.fin v→P v)∧∀r,loopC b i s n=.done r→Q r
 | 0,i,s,hs=>⟨fun v e=>by cases e;exact hs,fun r e=>(by cases e)⟩
 | n+1,i,s,hs=>by
   unfold loopC
   have k:=h i s hs
   cases e:b i s with
   | next v=>exact loopC_keep h n (i+1) v (k.1 v e)
   | stop v=>exact ⟨fun u e'=>by cases e';exact k.2.1 v e,fun r e'=>(by cases e')⟩
   | done r=>exact ⟨fun u e'=>(by cases e'),fun r' e'=>by cases e';exact k.2.2 r e⟩
theorem all_set {α:Type} {P:α→Prop} {l:List α} {k:Nat} {x:α} (h:∀t∈l,P t) (hx:P x):∀t∈l.set k x,P t:=fun t ht=>by
 rcases List.mem_or_eq_of_mem_set ht with ht | rfl
 · exact h t ht
 · exact hx
theorem nilB {α:Type} {P:Nat→α→Prop} {n:Nat}:bdS P n []:=⟨Nat.zero_le _,fun _ h=>(by cases h)⟩
theorem len1 {α:Type} {l:List α} {x:α}:(l++[x]).length=l.length+1:=by rw [List.length_append];rfl
theorem WI.at {n:Nat} {w:World} (h:WI n w) (k:Nat) (ho:(w.Tasks[k]?.getD default).Op≠0):0≤(w.Tasks[k]?.getD default).H∧(w.Tasks[k]?.getD default).H < ((w.Deeds.length:Nat):Int):=by
 cases e:w.Tasks[k]? with
 | none=>rw [e] at ho;exact absurd rfl ho
 | some t=>rw [e] at ho;exact h.t t (List.mem_of_getElem? e) ho
theorem WI.hand {n:Nat} {w:World} (h:WI n w) (k:Nat) (ho:(w.Tasks[k]?.getD default).Op=2) (hp:¬((w.Tasks[k]?.getD default).Pc=0∨(w.Tasks[k]?.getD default).Pc=1∨(w.Tasks[k]?.getD default).Pc=2)):(w.Tasks[k]?.getD default).Hand≠[]:=by
 cases e:w.Tasks[k]? with
 | none=>rw [e] at ho;exact absurd ho (by decide)
 | some t=>rw [e] at ho hp;exact h.h t (List.mem_of_getElem? e) ho hp
theorem WI.task {n:Nat} {w:World} (h:WI n w) (k:Nat):Task.bd n (w.Tasks[k]?.getD default):=bdS_get h.tb ⟨nilB,nilB⟩ k
theorem WI.deed {n:Nat} {w:World} (h:WI n w) (k:Nat):Deed.bd n (w.Deeds[k]?.getD default):=bdS_get h.db nilB k
theorem WI.str {n:Nat} {w:World} (h:WI n w) (k:Nat):Stripe.bd n (w.St[k]?.getD default):=bdS_get h.s nilB k
theorem WI.tk {n:Nat} {w:World} {k:Nat} {x:Task} (h:WI n w) (hb:Task.bd n x) (ho:x.Op≠0→0≤x.H∧x.H < ((w.Deeds.length:Nat):Int)) (hh:x.Op=2→¬(x.Pc=0∨x.Pc=1∨x.Pc=2)→x.Hand≠[]):WI n { w with Tasks:=w.Tasks.set k x } :=
 { h with tl:=(List.length_set ..).trans h.tl,t:=all_set h.t ho,h:=all_set h.h hh,tb:=bdS_set h.tb hb }
theorem WI.tz {n:Nat} {w:World} {k:Nat} (h:WI n w):WI n { w with Tasks:=w.Tasks.set k (Task.mk 0 0 (Span.mk 0 0 0 0 false ([]:List Attr)) 0 0 ([]:List Item) 0) } :=
 h.tk ⟨nilB,nilB⟩ (fun h=>absurd rfl h) (fun h=>absurd h (by show ¬(0:Int)=2;decide))
theorem WI.dd {n:Nat} {w:World} {k:Nat} {x:Deed} (h:WI n w) (hx:Deed.bd n x):WI n { w with Deeds:=w.Deeds.set k x } :=
 { h with t:=fun t ht ho=>by have:=h.t t ht ho;show 0≤t.H∧t.H < ((List.length (w.Deeds.set k x):Nat):Int);rw [List.length_set];exact this,db:=bdS_set h.db hx }
theorem WI.da {n m:Nat} {w:World} {x:Deed} (h:WI n w) (hm:n+1≤m) (hx:Deed.bd m x):WI m { w with Deeds:=w.Deeds++[x] } :=
 { h.mono (Nat.le_of_succ_le hm) with t:=fun t ht ho=>by have:=h.t t ht ho;show 0≤t.H∧t.H < ((List.length (w.Deeds++[x]):Nat):Int);rw [len1];omega,db:=bdS_app h.db hm (Deed_mono (Nat.le_of_succ_le hm)) hx }
theorem WI.st {n:Nat} {w:World} {k:Nat} {x:Stripe} (h:WI n w) (hx:Stripe.bd n x):WI n { w with St:=w.St.set k x } :=
 { h with sl:=by show 1≤(w.St.set k x).length∧(w.St.set k x).length≤16;rw [List.length_set];exact h.sl,s:=bdS_set h.s hx }
theorem WI.sts {n:Nat} {w:World} {l:List Stripe} (h:WI n w) (hl:l.length=w.St.length) (hx:bdS Stripe.bd n l):WI n { w with St:=l } :=
 { h with sl:=by show 1≤l.length∧l.length≤16;rw [hl];exact h.sl,s:=hx }
theorem WI.qs {n:Nat} {w:World} {l:List Item} (h:WI n w) (hx:bdS Item.bd n l):WI n { w with Queue:=l }:={ h with q:=hx }
theorem WI.os {n:Nat} {w:World} {l:List Item} (h:WI n w) (hx:bdS Item.bd n l):WI n { w with Out:=l }:={ h with o:=hx }
theorem WI.ds {n:Nat} {w:World} {l:List Timer} (h:WI n w) (hx:l.length≤n):WI n { w with Due:=l }:={ h with d:=⟨hx,fun _ _=>trivial⟩ }
theorem WI.cs {n:Nat} {w:World} {l:List Verdict} (h:WI n w) (hx:l.length≤n):WI n { w with Cache:=l }:={ h with v:=⟨hx,fun _ _=>trivial⟩ }
theorem WI.ww {n:Nat} {w:World} {x:Wheel} (h:WI n w) (hx:Wheel.bd 48 x):WI n { w with W:=x }:={ h with wb:=hx }
theorem WI.free {n:Nat} {w:World} {t r u i:Int} {s:Bool} {b:Bucket} (h:WI n w):WI n { w with Time:=t,Shut:=s,RuleHeld:=r,B:=b,Used:=u,Next:=i }:={ h with }
theorem WI.mix {n:Nat} {v a b c d e:World} (h:WI n v) (ha:WI n a) (hb:WI n b) (hc:WI n c) (hd:WI n d) (he:WI n e):WI n { v with St:=a.St,Cache:=b.Cache,Due:=c.Due,Queue:=d.Queue,Out:=e.Out } :=
 { h with sl:=ha.sl,s:=ha.s,v:=hb.v,d:=hc.d,q:=hd.q,o:=he.o }
theorem WI.sk {n:Nat} {w:World} {k:Nat} {a:Int} {l:List Trail} (h:WI n w) (hx:bdS Trail.bd n l):WI n { w with St:=w.St.set k (Stripe.mk a l) }:=h.st hx
theorem stepQ {σ ρ:Type} {P:σ→Prop} {Q:ρ→Prop} {st:Step σ ρ} {k:σ→ρ} (h:(∀v,st=.next v→P v)∧(∀v,st=.stop v→P v)∧∀r,st=.done r→Q r) (hk:∀v,P v→Q (k v)):Q (Step.get k st):=by
 cases st with
 | next v=>exact hk v (h.1 v rfl)
 | stop v=>exact hk v (h.2.1 v rfl)
 | done r=>exact h.2.2 r rfl
def WR (m:Nat) (z:Bool×World):Prop:=WI m z.2
theorem WI.pc {n:Nat} {w:World} {k:Nat} {x:Task} (h:WI n w) (hb:Task.bd n x) (ho:x.Op≠0→0≤x.H∧x.H < ((w.Deeds.length:Nat):Int)) (hp:x.Op≠2∨x.Pc=0∨x.Pc=1∨x.Pc=2):WI n { w with Tasks:=w.Tasks.set k x } :=
 h.tk hb ho (fun h2 h3=>by rcases hp with hp | hp;exact absurd h2 hp;exact absurd hp h3)
theorem queueApp {n m:Nat} {w:World} (h:WI n w) (hm:n+1≤m) {x:Item} (hx:Span.bd n x.S):bdS Item.bd m (w.Queue++[x]):=bdS_app h.q hm (Item_mono (by omega)) (Span_mono (by omega) _ hx)
theorem WI.mixE {n:Nat} {v p:World} (hv:WI n v) (h:WI n p):WR n (bindV v fun (v4:World)=>(true,{ v4 with Cache:=p.Cache,Due:=p.Due,Queue:=p.Queue,Out:=p.Out })):=hv.mix hv h h h h
theorem getD_mem {α:Type} [Inhabited α] {l:List α} {k:Nat} (h:k < l.length):l[k]?.getD default∈l:=by
 rw [List.getElem?_eq_getElem h];exact List.getElem_mem h
structure CurOk (c:Cur):Prop where
 i0:0≤c.f_i
 i1:c.f_i≤(c.f_b.length:Int)
 l:c.f_b.length≤4611686018427387904
theorem iAnd255 (a:Int):0≤iAnd .i64 a 255∧iAnd .i64 a 255≤255:=by
 unfold iAnd
 have h:(BitVec.toNat (BitVec.ofInt IntKind.i64.bits a &&& BitVec.ofInt IntKind.i64.bits 255))≤255:=by
  rw [BitVec.toNat_and]
  exact Nat.le_trans Nat.and_le_right (by decide)
 generalize BitVec.toNat (BitVec.ofInt IntKind.i64.bits a &&& BitVec.ofInt IntKind.i64.bits 255)=n at h
 rw [Go.Ev.wrap_small (n:=(n:Int)) (by omega) (by omega)]
 omega
theorem loopC_run {σ ρ:Type} {b:Nat→σ→Step σ ρ} {P:Nat→σ→Prop} (h:∀i s,P i s→∃v,b i s=.next v∧P (i+1) v):∀(n i:Nat) (s:σ),P i s→∃v,loopC b i s n=.fin v∧P (i+n) v
 | 0,i,s,hs=>⟨s,rfl,hs⟩
 | n+1,i,s,hs=>by
   obtain ⟨v,e,hv⟩:=h i s hs
   obtain ⟨u,e',hu⟩:=loopC_run h n (i+1) v hv
   exact ⟨u,by unfold loopC;rw [e];exact e',by rw [show i+(n+1)=i+1+n by omega];exact hu⟩
theorem bif_ind {β:Type} {P:β→Prop} {c:Bool} {a b:β} (ha:c=true→P a) (hb:c=false→P b):P (bif c then a else b):=by
 cases c
 · exact hb rfl
 · exact ha rfl
def CurR {α:Type} (z:α×Cur):Prop:=CurOk z.2
theorem bindC {α β:Type} {x:α×Cur} {k:α×Cur→β×Cur} (h:CurOk x.2) (hk:∀v:α×Cur,CurOk v.2→CurR (k v)):CurR (bindV x k):=hk x h
theorem bifC {β:Type} {c:Bool} {a b:β×Cur} (ha:CurR a) (hb:CurR b):CurR (bif c then a else b):=by
 cases c
 · exact hb
 · exact ha
theorem pairC {β:Type} {a:β} {c:Cur} (h:CurOk c):CurR (a,c):=h
theorem okE {α:Type} {x v:α×Cur} (e:v=x) (h:CurOk x.2):CurOk v.2:=by rw [e];exact h
def StC {σ ρ:Type} (P:σ→Prop) (st:Step σ (ρ×Cur)):Prop:=(∀v,st=.next v→P v)∧(∀v,st=.stop v→P v)∧∀r,st=.done r→CurR r
theorem stepC {σ ρ:Type} {P:σ→Prop} {st:Step σ (ρ×Cur)} {k:σ→ρ×Cur} (h:StC P st) (hk:∀v,P v→CurR (k v)):CurR (Step.get k st):=by
 cases st with
 | next v=>exact hk v (h.1 v rfl)
 | stop v=>exact hk v (h.2.1 v rfl)
 | done r=>exact h.2.2 r rfl
theorem finC {σ ρ:Type} {P:σ→Prop} {l:Fin σ (ρ×Cur)} {k:σ→ρ×Cur} (h:(∀v,l=.fin v→P v)∧∀r,l=.done r→CurR r) (hk:∀v,P v→CurR (k v)):CurR (Fin.get k l):=len_fin (Q:=CurR) h hk
theorem StC.nx {σ ρ:Type} {P:σ→Prop} {v:σ} (h:P v):StC P (Step.next v:Step σ (ρ×Cur)):=nx_step h
theorem StC.st {σ ρ:Type} {P:σ→Prop} {v:σ} (h:P v):StC P (Step.stop v:Step σ (ρ×Cur)):=st_step h
theorem StC.dn {σ ρ:Type} {P:σ→Prop} {r:ρ×Cur} (h:CurR r):StC P (Step.done r:Step σ (ρ×Cur)):=dn_step h
theorem StC.bif {σ ρ:Type} {P:σ→Prop} {c:Bool} {a b:Step σ (ρ×Cur)} (ha:StC P a) (hb:StC P b):StC P (bif c then a else b):=bif_step ha hb
theorem StC.bind {σ ρ α:Type} {P:σ→Prop} {x:α×Cur} {k:α×Cur→Step σ (ρ×Cur)} (h:CurOk x.2) (hk:∀v:α×Cur,CurOk v.2→StC P (k v)):StC P (bindV x k):=hk x h
def ntInv (s:ByteArray×Int):Prop:=(s.1.size=0∧s.2.natAbs≤9223372036854775808)∨s.1.size+s.2.natAbs≤4611686018427387904
def ntM (s:ByteArray×Int):Nat:=s.2.natAbs
theorem size_str1 (c:Int):(strOfNums [c]).size=1:=rfl
theorem nt_abs {x:Int} (h:x.natAbs≤9223372036854775808):(IntKind.i64.wrap (x.tdiv 10)).natAbs=x.natAbs / 10:=by
 have e:(x.tdiv 10).natAbs=x.natAbs / 10:=by rw [Int.natAbs_tdiv];rfl
 generalize x.tdiv 10=q at e ⊢
 have hq:q.natAbs≤922337203685477580:=by omega
 have hq1:-9223372036854775808≤q:=by clear e;omega
 have hq2:q≤9223372036854775807:=by clear e;omega
 rw [Go.Ev.wrap_small hq1 hq2,e]
theorem nt_step {s:ByteArray} {x c:Int} (h:ntInv (s,x)) (hx:x≠0):ntInv (strOfNums [c]++s,IntKind.i64.wrap (x.tdiv 10))∧ntM (strOfNums [c]++s,IntKind.i64.wrap (x.tdiv 10)) < ntM (s,x):=by
 unfold ntInv ntM at *
 simp only at h ⊢
 rw [nt_abs (by omega),ByteArray.size_append,size_str1]
 omega
theorem nt_cat2 {s:ByteArray} {x:Int} {b:UInt8} (h:ntInv (s,x)):(((ByteArray.mk #[b]).size+s.size:Nat):Int)≤9223372036854775807:=by
 unfold ntInv at h
 simp only at h
 have:(ByteArray.mk #[b]).size=1:=rfl
 omega
theorem bsz (a:Array UInt8):(ByteArray.mk a).size=a.size:=rfl
theorem loopC_all {σ:Type} {f:Nat→σ→Step σ Bool} (hd:∀i s r,f i s=.done r→r=false):∀(n i:Nat) (s:σ),(∃s',loopC f i s n=.fin s')∨loopC f i s n=.done false
 | 0,i,s=>.inl ⟨s,rfl⟩
 | n+1,i,s=>by
   unfold loopC
   cases h:f i s with
   | next s'=>exact loopC_all hd n (i+1) s'
   | stop s'=>exact .inl ⟨s',rfl⟩
   | done r=>rw [hd i s r h];exact .inr rfl
theorem loopL_all {α σ:Type} {f:Nat→σ→α→Step σ Bool} (hd:∀i s a r,f i s a=.done r→r=false):∀(l:List α) (i:Nat) (s:σ),(∃s',loopL f i s l=.fin s')∨loopL f i s l=.done false
 | [],i,s=>.inl ⟨s,rfl⟩
 | a :: l,i,s=>by
   unfold loopL
   cases h:f i s a with
   | next s'=>exact loopL_all hd l (i+1) s'
   | stop s'=>exact .inl ⟨s',rfl⟩
   | done r=>rw [hd i s a r h];exact .inr rfl
theorem loopL_congr {α σ ρ:Type} {f g:Nat→σ→α→Step σ ρ}:∀(l:List α) (i:Nat) (s:σ),(∀i s,∀a∈l,f i s a=g i s a)→loopL f i s l=loopL g i s l
 | [],i,s,_=>rfl
 | a :: l,i,s,h=>by
   unfold loopL
   rw [h i s a (by simp)]
   cases g i s a with
   | next s'=>exact loopL_congr l (i+1) s' (fun i s x hx=>h i s x (by simp [hx]))
   | _=>rfl
def impl_within (p0:Int) (p1:Int) (p2:Int):Bool :=
 (bif (decide (p0≥p1)) then (decide (p0≤p2)) else false)
theorem c_impl_within (p0:Int) (p1:Int) (p2:Int):FnOk prog 35 [.one (.v (.int .i64 p0)),.one (.v (.int .i64 p1)),.one (.v (.int .i64 p2))] ⟨.one (.v (.bool (impl_within p0 p1 p2))),[],[],false⟩:=by
 refine FnOk.intro (E:=env) envOk wide func35 rfl (by kernel_rfl) rfl rfl ?_
 have hg:=impl_within.eq_1 p0 p1 p2
 have hown:∀g:Bool,AV.Own (AV.one (.v (.bool g))):=fun g=>.v _
 exact seqE (seqE (brD hg (fun hg h1=>leafE hown hg) (fun hg h1=>leafE hown hg)))
def impl_NameOk_b1 (p0:ByteArray) (i1:Nat) (s1:Unit):Step (Unit) Bool :=
 (bif (decide ((((p0).data.getD i1 0).toNat:Int) < 97)) then (.done false) else (bif (decide ((((p0).data.getD i1 0).toNat:Int) > 122)) then (.done false) else (.next ())))
def impl_NameOk (p0:ByteArray):Bool :=
 (Fin.get (fun s1=>(impl_within (((p0).size:Nat):Int) 1 8)) (loopC (impl_NameOk_b1 p0) 0 () (p0).size))
theorem c_impl_NameOk (p0:ByteArray):FnOk prog 78 [.one (.v (.string p0))] ⟨.one (.v (.bool (impl_NameOk p0))),[],[],false⟩:=by
 refine FnOk.intro (E:=env) envOk wide func78 rfl (by kernel_rfl) rfl rfl ?_
 have hg:=impl_NameOk.eq_1 p0
 have hown:∀g:Bool,AV.Own (AV.one (.v (.bool g))):=fun g=>.v _
 exact seqE (seqE (seqE (loopCE hg [0] (fun x1=>[(3,.one (.v (.int .i64 ((x1.i:Nat):Int))))]) (fun x1=>[]) [] ((by repeat' constructor)) (fun x1=>seqE (seqE (lenS fun hN1=>tstL (fun hi1=>have hb1:=(x1.bdy hi1).trans (impl_NameOk_b1.eq_1 ..);have hw1:=wrap_succ hi1 (by assumption);seqE (seqE (andE (by (omega)) (brDF hb1 (fun hb1 h2=>andE (by (omega)) (brD hb1 (fun hb1 h3=>seqE (have hg:=donE hg (x1.outD hi1 hb1);leafE hown hg)) (fun hb1 h3=>x1.goE hi1 hb1 [] ⟨rfl,⟨(eqInt hw1),rfl,trivial⟩,trivial,trivial⟩))) (fun hb1 h2=>seqE (have hg:=donE hg (x1.outD hi1 hb1);leafE hown hg)))))) (fun hi1=>have hg:=finE hg (x1.fin hi1);seqE (lenS fun hN4=>.inl (⟨_,_,c_impl_within (((p0).size:Nat):Int) 1 8,(FzAs.same _),litE (m:=1) rfl (leafE hown hg)⟩)))))))))
theorem impl_NameOk_all (s:ByteArray):∀i u r,impl_NameOk_b1 s i u=.done r→r=false:=by
 intro i u r hr
 unfold impl_NameOk_b1 at hr
 simp only [Bool.cond_eq_ite] at hr
 repeat' split at hr
 all_goals (first | (cases hr;rfl) | cases hr)
theorem impl_NameOk_size {s:ByteArray} (h:impl_NameOk s=true):s.size≤8:=by
 unfold impl_NameOk at h
 rcases loopC_all (impl_NameOk_all s) s.size 0 () with ⟨u,e⟩ | e
 · rw [e] at h
   simp [Fin.get,impl_within,Bool.cond_eq_ite] at h
   omega
 · rw [e] at h;cases h
def impl_PlainOk_b1 (p0:ByteArray) (i1:Nat) (s1:Unit):Step (Unit) Bool :=
 (bif (!(impl_within (IntKind.i64.wrap (((p0).data.getD i1 0).toNat:Int)) 32 126)) then (.done false) else (bif ((((p0).data.getD i1 0).toNat:Int)==34) then (.done false) else (.next ())))
def impl_PlainOk (p0:ByteArray):Bool :=
 (Fin.get (fun s1=>(decide ((((p0).size:Nat):Int)≤20))) (loopC (impl_PlainOk_b1 p0) 0 () (p0).size))
theorem c_impl_PlainOk (p0:ByteArray):FnOk prog 79 [.one (.v (.string p0))] ⟨.one (.v (.bool (impl_PlainOk p0))),[],[],false⟩:=by
 refine FnOk.intro (E:=env) envOk wide func79 rfl (by kernel_rfl) rfl rfl ?_
 have hg:=impl_PlainOk.eq_1 p0
 have hown:∀g:Bool,AV.Own (AV.one (.v (.bool g))):=fun g=>.v _
 exact seqE (seqE (seqE (loopCE hg [0] (fun x1=>[(3,.one (.v (.int .i64 ((x1.i:Nat):Int))))]) (fun x1=>[]) [] ((by repeat' constructor)) (fun x1=>seqE (seqE (lenS fun hN1=>tstL (fun hi1=>have hb1:=(x1.bdy hi1).trans (impl_PlainOk_b1.eq_1 ..);have hw1:=wrap_succ hi1 (by assumption);seqE (seqE (andE (by (omega)) (.inl (⟨_,_,c_impl_within (IntKind.i64.wrap (((p0).data.getD x1.i 0).toNat:Int)) 32 126,(FzAs.same _),litE (m:=1) rfl (brF hb1 (fun hb1 h2=>andE (by (omega)) (brQ hb1 (fun hb1 h3=>seqE (have hg:=donE hg (x1.outD hi1 hb1);leafE hown hg)) (fun hb1 h3=>x1.goE hi1 hb1 [] ⟨rfl,⟨(eqInt hw1),rfl,trivial⟩,trivial,trivial⟩))) (fun hb1 h2=>seqE (have hg:=donE hg (x1.outD hi1 hb1);leafE hown hg)))⟩))))) (fun hi1=>have hg:=finE hg (x1.fin hi1);seqE (lenS fun hN4=>leafE hown hg))))))))
theorem impl_PlainOk_all (s:ByteArray):∀i u r,impl_PlainOk_b1 s i u=.done r→r=false:=by
 intro i u r hr
 unfold impl_PlainOk_b1 at hr
 simp only [Bool.cond_eq_ite] at hr
 repeat' split at hr
 all_goals (first | (cases hr;rfl) | cases hr)
theorem impl_PlainOk_size {s:ByteArray} (h:impl_PlainOk s=true):s.size≤20:=by
 unfold impl_PlainOk at h
 rcases loopC_all (impl_PlainOk_all s) s.size 0 () with ⟨u,e⟩ | e
 · rw [e] at h
   simp [Fin.get] at h
   omega
 · rw [e] at h;cases h
def impl_AttrOk (p0:Attr):Bool :=
 (bif p0.Num then (bif (impl_NameOk p0.Key) then (bif (impl_within p0.N 0 2147483647) then (decide (p0.Text=(ByteArray.mk #[]))) else false) else false) else (bif (impl_NameOk p0.Key) then (bif (impl_PlainOk p0.Text) then (p0.N==0) else false) else false))
theorem c_impl_AttrOk (p0:Attr):FnOk prog 54 [.agg (Attr.cells p0)] ⟨.one (.v (.bool (impl_AttrOk p0))),[],[],false⟩:=by
 refine FnOk.intro (E:=env) envOk wide func54 rfl (by kernel_rfl) rfl rfl ?_
 have hg:=impl_AttrOk.eq_1 p0
 have hown:∀g:Bool,AV.Own (AV.one (.v (.bool g))):=fun g=>.v _
 exact seqE (litE (m:=0) rfl (seqE (seqE (brE hg (fun hg h1=>seqE (.inl (⟨_,_,c_impl_NameOk p0.Key,(FzAs.same _),litE (m:=2) rfl (brE hg (fun hg h2=>.inl (⟨_,_,c_impl_within p0.N 0 2147483647,(FzAs.same _),litE (m:=3) rfl (brE hg (fun hg h3=>leafE hown hg) (fun hg h3=>leafE hown hg))⟩)) (fun hg h2=>leafE hown hg))⟩))) (fun hg h1=>seqE (.inl (⟨_,_,c_impl_NameOk p0.Key,(FzAs.same _),litE (m:=2) rfl (brE hg (fun hg h4=>.inl (⟨_,_,c_impl_PlainOk p0.Text,(FzAs.same _),litE (m:=3) rfl (brE hg (fun hg h5=>leafE hown hg) (fun hg h5=>leafE hown hg))⟩)) (fun hg h4=>leafE hown hg))⟩)))))))
theorem impl_AttrOk_size {a:Attr} (h:impl_AttrOk a=true):a.Key.size≤8∧(a.Num=false→a.Text.size≤20):=by
 unfold impl_AttrOk at h
 cases hn:impl_NameOk a.Key with
 | false=>rw [hn] at h;cases a.Num <;> simp at h
 | true =>
   refine ⟨impl_NameOk_size hn,fun h0=>?_⟩
   rw [h0,hn] at h
   cases hp:impl_PlainOk a.Text with
   | false=>rw [hp] at h;simp at h
   | true=>exact impl_PlainOk_size hp
def impl_AttrsOk_b1 (p0:(List Attr)) (i1:Nat) (s1:Unit) (a1:Attr):Step (Unit) Bool :=
 (bif (!(impl_AttrOk a1)) then (.done false) else (bif (decide (((i1:Nat):Int) > 0)) then (bif (!Op.bytesLess ((p0[((IntKind.i64.wrap (((i1:Nat):Int) - 1))).toNat]?.getD default).Key).toList (a1.Key).toList) then (.done false) else (.next ())) else (.next ())))
def impl_AttrsOk (p0:(List Attr)):Bool :=
 (Fin.get (fun s1=>(decide ((((p0).length:Nat):Int)≤4))) (loopL (impl_AttrsOk_b1 p0) 0 () p0))
theorem c_impl_AttrsOk (p0:(List Attr)):FnOk prog 52 [.one (.s false 4 (List.map Attr.cells p0))] ⟨.one (.v (.bool (impl_AttrsOk p0))),[],[],false⟩:=by
 refine FnOk.intro (E:=env) envOk wide func52 rfl (by kernel_rfl) rfl rfl ?_
 have hg:=impl_AttrsOk.eq_1 p0
 have hown:∀g:Bool,AV.Own (AV.one (.v (.bool g))):=fun g=>.v _
 exact seqE (seqE (seqE (lenM fun hN1=>loopLE hg [0,5,6] (fun x1=>[(7,.one (.v (.int .i64 ((x1.i:Nat):Int))))]) (fun x1=>[]) [] ((by repeat' constructor)) (fun x1=>seqE (seqE (tstL (fun hi1=>have hb1:=(x1.bdy hi1).trans (impl_AttrsOk_b1.eq_1 ..);have hw1:=wrap_succ hi1 (by assumption);seqE (seqE (idxAt hi1 (litE (m:=0) rfl (seqE (.inl ⟨by kernel_rfl,⟨_,_,c_impl_AttrOk (p0[x1.i]'hi1),(FzAs.same _),brF hb1 (fun hb1 h2=>brD hb1 (fun hb1 h3=>idxOf (l:=p0) (by have hj:x1.i < p0.length:=hi1;have h9:((x1.i:Nat):Int) > 0:=(by assumption);rw [Go.Ev.wrap_small (n:=((x1.i:Nat):Int) - 1) (by omega) (by omega)];omega) (fun hq4=>brE hb1 (fun hb1 h5=>seqE (have hg:=donE hg (x1.outD hi1 hb1);leafE hown hg)) (fun hb1 h5=>x1.goE hi1 hb1 [] ⟨rfl,⟨(eqInt hw1),rfl,rfl,rfl,trivial⟩,trivial,trivial⟩))) (fun hb1 h3=>x1.goE hi1 hb1 [] ⟨rfl,⟨(eqInt hw1),rfl,rfl,rfl,trivial⟩,trivial,trivial⟩)) (fun hb1 h2=>seqE (have hg:=donE hg (x1.outD hi1 hb1);leafE hown hg))⟩⟩)))))) (fun hi1=>have hg:=finE hg (x1.fin hi1);seqE (lenM fun hN6=>leafE hown hg))))))))
theorem impl_AttrsOk_all (l:List Attr):∀i u a r,impl_AttrsOk_b1 l i u a=.done r→r=false:=by
 intro i u a r hr
 unfold impl_AttrsOk_b1 at hr
 simp only [Bool.cond_eq_ite] at hr
 repeat' split at hr
 all_goals (first | (cases hr;rfl) | cases hr)
theorem impl_AttrsOk_len {l:List Attr} (h:impl_AttrsOk l=true):l.length≤4:=by
 unfold impl_AttrsOk at h
 rcases loopL_all (impl_AttrsOk_all l) l 0 () with ⟨u,e⟩ | e
 · rw [e] at h
   simp [Fin.get] at h
   omega
 · rw [e] at h;cases h
def impl_AttrSize (p0:Attr):Int :=
 (bif p0.Num then (IntKind.i64.wrap ((((p0.Key).size:Nat):Int)+4)) else (IntKind.i64.wrap ((((p0.Key).size:Nat):Int)+(((p0.Text).size:Nat):Int))))
theorem c_impl_AttrSize (p0:Attr):FnOk prog 77 [.agg (Attr.cells p0)] ⟨.one (.v (.int .i64 (impl_AttrSize p0))),[],[],false⟩:=by
 refine FnOk.intro (E:=env) envOk wide func77 rfl (by kernel_rfl) rfl rfl ?_
 have hg:=impl_AttrSize.eq_1 p0
 have hown:∀g:Int,AV.Own (AV.one (.v (.int .i64 g))):=fun g=>.v _
 exact seqE (litE (m:=0) rfl (seqE (seqE (brE hg (fun hg h1=>seqE (lenS fun hN2=>leafE hown hg)) (fun hg h1=>seqE (lenS fun hN3=>lenS fun hN4=>leafE hown hg))))))
def impl_SizeOf_b1 (i1:Nat) (s1:Int) (a1:Attr):Step (Int) Int :=
 (.next (IntKind.i64.wrap (s1+(impl_AttrSize a1))))
def impl_SizeOf (p0:Span):Int :=
 (Fin.get (fun s1=>s1) (loopL impl_SizeOf_b1 0 12 p0.Attrs))
theorem c_impl_SizeOf (p0:Span):FnOk prog 53 [.agg ((Span.cells false) p0)] ⟨.one (.v (.int .i64 (impl_SizeOf p0))),[],[],false⟩:=by
 refine FnOk.intro (E:=env) envOk wide func53 rfl (by kernel_rfl) rfl rfl ?_
 have hg:=impl_SizeOf.eq_1 p0
 have hown:∀g:Int,AV.Own (AV.one (.v (.int .i64 g))):=fun g=>.v _
 exact seqE (litE (m:=0) rfl (seqE (seqE (seqE (lenM fun hN1=>loopLE hg [7,8] (fun x1=>[(3,.one (.v (.int .i64 x1.s))),(9,.one (.v (.int .i64 ((x1.i:Nat):Int))))]) (fun x1=>[.dead]) [none] ((by repeat' constructor)) (fun x1=>seqE (seqE (tstL (fun hi1=>have hb1:=(x1.bdy hi1).trans (impl_SizeOf_b1.eq_1 ..);have hw1:=wrap_succ hi1 (by assumption);seqE (seqE (idxAt hi1 (litE (m:=1) rfl (.inl (⟨_,_,c_impl_AttrSize (p0.Attrs[x1.i]'hi1),(FzAs.same _),litE (m:=3) rfl (x1.goE hi1 hb1 [none] ⟨rfl,⟨rfl,(eqInt hw1),rfl,rfl,trivial⟩,trivial,trivial⟩)⟩)))))) (fun hi1=>have hg:=finE hg (x1.fin hi1);seqE (leafE hown hg))))))))))
def impl_SpanOk (p0:Span):Bool :=
 (bif (impl_within p0.Trace 1 999) then (bif (impl_within p0.Id 1 999) then (bif (impl_within p0.End 0 99999) then (bif (impl_within p0.Start 0 p0.End) then (bif (impl_AttrsOk p0.Attrs) then (decide ((impl_SizeOf p0)≤96)) else false) else false) else false) else false) else false)
theorem c_impl_SpanOk (p0:Span):FnOk prog 36 [.agg ((Span.cells false) p0)] ⟨.one (.v (.bool (impl_SpanOk p0))),[],[],false⟩:=by
 refine FnOk.intro (E:=env) envOk wide func36 rfl (by kernel_rfl) rfl rfl ?_
 have hg:=impl_SpanOk.eq_1 p0
 have hown:∀g:Bool,AV.Own (AV.one (.v (.bool g))):=fun g=>.v _
 exact seqE (litE (m:=0) rfl (seqE (.inl (⟨_,_,c_impl_within p0.Trace 1 999,(FzAs.same _),litE (m:=2) rfl (brE hg (fun hg h1=>.inl (⟨_,_,c_impl_within p0.Id 1 999,(FzAs.same _),litE (m:=3) rfl (brE hg (fun hg h2=>.inl (⟨_,_,c_impl_within p0.End 0 99999,(FzAs.same _),litE (m:=4) rfl (brE hg (fun hg h3=>.inl (⟨_,_,c_impl_within p0.Start 0 p0.End,(FzAs.same _),litE (m:=5) rfl (brE hg (fun hg h4=>.inl (⟨_,_,c_impl_AttrsOk p0.Attrs,(FzAs.same _),litE (m:=6) rfl (brE hg (fun hg h5=>.inl (⟨_,_,c_impl_SizeOf p0,(FzAs.same _),litE (m:=7) rfl (leafE hown hg)⟩)) (fun hg h5=>leafE hown hg))⟩)) (fun hg h4=>leafE hown hg))⟩)) (fun hg h3=>leafE hown hg))⟩)) (fun hg h2=>leafE hown hg))⟩)) (fun hg h1=>leafE hown hg))⟩))))
theorem impl_SpanOk_len {s:Span} (h:impl_SpanOk s=true):s.Attrs.length≤4:=by
 unfold impl_SpanOk at h
 cases ha:impl_AttrsOk s.Attrs with
 | true=>exact impl_AttrsOk_len ha
 | false =>
   rw [ha] at h
   simp [Bool.cond_eq_ite] at h
def impl_NumText (p0:Int):ByteArray :=
 (itoaS p0)
theorem c_impl_NumText (p0:Int):FnOk prog 25 [.one (.v (.int .i64 p0))] ⟨.one (.v (.string (impl_NumText p0))),[],[],false⟩:=by
 refine FnOk.intro (E:=env) envOk wide func25 rfl (by kernel_rfl) rfl rfl ?_
 have hg:=impl_NumText.eq_1 p0
 have hown:∀g:ByteArray,AV.Own (AV.one (.v (.string g))):=fun g=>.v _
 exact seqE (seqE (.inl (⟨_,_,c_itoa p0,(FzAs.same _),litE (m:=1) rfl (leafE hown hg)⟩)))
theorem impl_NumText_size {n:Int} (h:I64 n):(impl_NumText n).size≤20:=itoaS_size h.1 h.2
def impl_AttrText (p0:Attr):ByteArray :=
 (bif (!(impl_AttrOk p0)) then (ByteArray.mk #[]) else (bif p0.Num then ((p0.Key++(ByteArray.mk #[61]))++(impl_NumText p0.N)) else (((p0.Key++(ByteArray.mk #[61,34]))++p0.Text)++(ByteArray.mk #[34]))))
theorem cr_impl_AttrText (p0:Attr) (hr0:Attr.rg p0):FnOk prog 37 [.agg (Attr.cells p0)] ⟨.one (.v (.string (impl_AttrText p0))),[],[],false⟩:=by
 refine FnOk.intro (E:=env) envOk wide func37 rfl (by kernel_rfl) rfl rfl ?_
 have hg:=impl_AttrText.eq_1 p0
 have hown:∀g:ByteArray,AV.Own (AV.one (.v (.string g))):=fun g=>.v _
 refine seqE ?_
 refine litE (m:=0) rfl ?_
 refine seqE ?_
 refine seqE ?_
 refine .inl (⟨_,_,c_impl_AttrOk p0,(FzAs.same _),?_⟩)
 refine litE (m:=2) rfl ?_
 refine brE hg (fun hg h1=>?_) (fun hg h1=>?_)
 · refine seqE ?_
   exact leafE hown hg
 · refine seqE ?_
   refine brE hg (fun hg h2=>?_) (fun hg h2=>?_)
   · refine seqE ?_
     refine .inl ⟨by kernel_rfl,?_⟩
     refine andE (by have ho:=impl_AttrOk_size (a:=p0) (by simpa using h1);have hz:=impl_NumText_size hr0.N;(try have ht:=ho.2 h2);(try simp only [ByteArray.size_append]);simp only [bsz,List.size_toArray,List.length_cons,List.length_nil];omega) ?_
     refine ⟨_,_,c_impl_NumText p0.N,(FzAs.same _),?_⟩
     refine andE (by have ho:=impl_AttrOk_size (a:=p0) (by simpa using h1);have hz:=impl_NumText_size hr0.N;(try have ht:=ho.2 h2);(try simp only [ByteArray.size_append]);simp only [bsz,List.size_toArray,List.length_cons,List.length_nil];omega) ?_
     exact leafE hown hg
   · refine seqE ?_
     refine andE (by have ho:=impl_AttrOk_size (a:=p0) (by simpa using h1);have hz:=impl_NumText_size hr0.N;(try have ht:=ho.2 h2);(try simp only [ByteArray.size_append]);simp only [bsz,List.size_toArray,List.length_cons,List.length_nil];omega) ?_
     refine andE (by have ho:=impl_AttrOk_size (a:=p0) (by simpa using h1);have hz:=impl_NumText_size hr0.N;(try have ht:=ho.2 h2);(try simp only [ByteArray.size_append]);simp only [bsz,List.size_toArray,List.length_cons,List.length_nil];omega) ?_
     refine andE (by have ho:=impl_AttrOk_size (a:=p0) (by simpa using h1);have hz:=impl_NumText_size hr0.N;(try have ht:=ho.2 h2);(try simp only [ByteArray.size_append]);simp only [bsz,List.size_toArray,List.length_cons,List.length_nil];omega) ?_
     exact leafE hown hg
theorem c_impl_AttrText (p0:Attr):FnOk prog 37 [.agg (Attr.cells p0)] ⟨.one (.v (.string (impl_AttrText p0))),[],[],false⟩ :=
 FnOk.fits ⟨_,func37,by kernel_rfl,by kernel_rfl⟩ (fun hf=>cr_impl_AttrText p0 (rg_Attr hf.1))
theorem impl_AttrText_size {a:Attr} (h:I64 a.N):(impl_AttrText a).size≤40:=by
 unfold impl_AttrText
 cases ho:impl_AttrOk a with
 | false=>simp only [Bool.not_false,cond_true,bsz,List.size_toArray,List.length_cons,List.length_nil];omega
 | true =>
   have h1:=impl_AttrOk_size ho
   have h2:=impl_NumText_size h
   cases hn:a.Num with
   | true=>simp only [Bool.not_true,cond_true,cond_false,ByteArray.size_append,bsz,List.size_toArray,List.length_cons,List.length_nil];omega
   | false=>have h3:=h1.2 hn;simp only [Bool.not_true,cond_false,ByteArray.size_append,bsz,List.size_toArray,List.length_cons,List.length_nil];omega
def impl_SpanText_j1 (p0:Span):Step (ByteArray) ByteArray :=
 (bif p0.Err then (.next ((((((((impl_NumText p0.Trace)++(ByteArray.mk #[47]))++(impl_NumText p0.Id))++(ByteArray.mk #[32]))++(impl_NumText p0.Start))++(ByteArray.mk #[45]))++(impl_NumText p0.End))++(ByteArray.mk #[32,102,97,105,108,101,100]))) else (.next (((((((impl_NumText p0.Trace)++(ByteArray.mk #[47]))++(impl_NumText p0.Id))++(ByteArray.mk #[32]))++(impl_NumText p0.Start))++(ByteArray.mk #[45]))++(impl_NumText p0.End))))
def impl_SpanText_b2 (i2:Nat) (s2:ByteArray) (a2:Attr):Step (ByteArray) ByteArray :=
 (.next (s2++((ByteArray.mk #[32])++(impl_AttrText a2))))
def impl_SpanText (p0:Span):ByteArray :=
 (bif (!(impl_SpanOk p0)) then (ByteArray.mk #[]) else (Step.get (fun s1=>(Fin.get (fun s2=>s2) (loopL impl_SpanText_b2 0 s1 p0.Attrs))) (impl_SpanText_j1 p0)))
theorem implJ {s:Span} {v:ByteArray} (e:impl_SpanText_j1 s=.next v) (h:Span.rg s):v.size≤200:=by
 have z1:=impl_NumText_size h.Trace;have z2:=impl_NumText_size h.Id;have z3:=impl_NumText_size h.Start;have z4:=impl_NumText_size h.End
 unfold impl_SpanText_j1 at e
 cases he:s.Err with
 | true=>rw [he,cond_true] at e;cases e;simp only [ByteArray.size_append,bsz,List.size_toArray,List.length_cons,List.length_nil];omega
 | false=>rw [he,cond_false] at e;cases e;simp only [ByteArray.size_append,bsz,List.size_toArray,List.length_cons,List.length_nil];omega
theorem cr_impl_SpanText (p0:Span) (hr0:Span.rg p0):FnOk prog 24 [.agg ((Span.cells false) p0)] ⟨.one (.v (.string (impl_SpanText p0))),[],[],false⟩:=by
 refine FnOk.intro (E:=env) envOk wide func24 rfl (by kernel_rfl) rfl rfl ?_
 have hg:=impl_SpanText.eq_1 p0
 have hown:∀g:ByteArray,AV.Own (AV.one (.v (.string g))):=fun g=>.v _
 refine seqE ?_
 refine litE (m:=0) rfl ?_
 refine seqE ?_
 refine seqE ?_
 refine .inl (⟨_,_,c_impl_SpanOk p0,(FzAs.same _),?_⟩)
 refine litE (m:=2) rfl ?_
 refine brE hg (fun hg h1=>?_) (fun hg h1=>?_)
 · refine seqE ?_
   exact leafE hown hg
 · refine seqE ?_
   refine .inl ⟨by kernel_rfl,?_⟩
   refine ⟨_,_,c_impl_NumText p0.Trace,(FzAs.same _),?_⟩
   refine andE (by have z1:=impl_NumText_size hr0.Trace;have z2:=impl_NumText_size hr0.Id;have z3:=impl_NumText_size hr0.Start;have z4:=impl_NumText_size hr0.End;have hl:=impl_SpanOk_len (s:=p0) (by simpa using h1);(try have y2:=impl_AttrText_size (hr0.Attrs.2 _ (List.getElem_mem hi2)).N);(try have q2:=hI2);(try simp only [ByteArray.size_append]);simp only [bsz,List.size_toArray,List.length_cons,List.length_nil];omega) ?_
   refine ⟨_,_,c_impl_NumText p0.Id,(FzAs.same _),?_⟩
   refine andE (by have z1:=impl_NumText_size hr0.Trace;have z2:=impl_NumText_size hr0.Id;have z3:=impl_NumText_size hr0.Start;have z4:=impl_NumText_size hr0.End;have hl:=impl_SpanOk_len (s:=p0) (by simpa using h1);(try have y2:=impl_AttrText_size (hr0.Attrs.2 _ (List.getElem_mem hi2)).N);(try have q2:=hI2);(try simp only [ByteArray.size_append]);simp only [bsz,List.size_toArray,List.length_cons,List.length_nil];omega) ?_
   refine andE (by have z1:=impl_NumText_size hr0.Trace;have z2:=impl_NumText_size hr0.Id;have z3:=impl_NumText_size hr0.Start;have z4:=impl_NumText_size hr0.End;have hl:=impl_SpanOk_len (s:=p0) (by simpa using h1);(try have y2:=impl_AttrText_size (hr0.Attrs.2 _ (List.getElem_mem hi2)).N);(try have q2:=hI2);(try simp only [ByteArray.size_append]);simp only [bsz,List.size_toArray,List.length_cons,List.length_nil];omega) ?_
   refine ⟨_,_,c_impl_NumText p0.Start,(FzAs.same _),?_⟩
   refine andE (by have z1:=impl_NumText_size hr0.Trace;have z2:=impl_NumText_size hr0.Id;have z3:=impl_NumText_size hr0.Start;have z4:=impl_NumText_size hr0.End;have hl:=impl_SpanOk_len (s:=p0) (by simpa using h1);(try have y2:=impl_AttrText_size (hr0.Attrs.2 _ (List.getElem_mem hi2)).N);(try have q2:=hI2);(try simp only [ByteArray.size_append]);simp only [bsz,List.size_toArray,List.length_cons,List.length_nil];omega) ?_
   refine andE (by have z1:=impl_NumText_size hr0.Trace;have z2:=impl_NumText_size hr0.Id;have z3:=impl_NumText_size hr0.Start;have z4:=impl_NumText_size hr0.End;have hl:=impl_SpanOk_len (s:=p0) (by simpa using h1);(try have y2:=impl_AttrText_size (hr0.Attrs.2 _ (List.getElem_mem hi2)).N);(try have q2:=hI2);(try simp only [ByteArray.size_append]);simp only [bsz,List.size_toArray,List.length_cons,List.length_nil];omega) ?_
   refine ⟨_,_,c_impl_NumText p0.End,(FzAs.same _),?_⟩
   refine andE (by have z1:=impl_NumText_size hr0.Trace;have z2:=impl_NumText_size hr0.Id;have z3:=impl_NumText_size hr0.Start;have z4:=impl_NumText_size hr0.End;have hl:=impl_SpanOk_len (s:=p0) (by simpa using h1);(try have y2:=impl_AttrText_size (hr0.Attrs.2 _ (List.getElem_mem hi2)).N);(try have q2:=hI2);(try simp only [ByteArray.size_append]);simp only [bsz,List.size_toArray,List.length_cons,List.length_nil];omega) ?_
   refine joinE hg [1] (fun x1=>[(3,.one (.v (.string x1.s)))]) (fun x1=>[.keep 0,.dead]) (fun hb1=>?_) (fun x1 hg=>?_)
   · have hb1:=hb1.trans (impl_SpanText_j1.eq_1 ..)
     refine seqE ?_
     refine brE hb1 (fun hb1 h2=>?_) (fun hb1 h2=>.inl ⟨⟨_,hb1⟩,[some 0,none],⟨rfl,⟨rfl,⟨rfl,rfl,rfl,rfl⟩,trivial⟩,⟨⟨rfl,rfl,⟨rfl,rfl,rfl,rfl,rfl,rfl,trivial⟩⟩,trivial⟩,trivial⟩⟩)
     refine andE (by have z1:=impl_NumText_size hr0.Trace;have z2:=impl_NumText_size hr0.Id;have z3:=impl_NumText_size hr0.Start;have z4:=impl_NumText_size hr0.End;have hl:=impl_SpanOk_len (s:=p0) (by simpa using h1);(try have y2:=impl_AttrText_size (hr0.Attrs.2 _ (List.getElem_mem hi2)).N);(try have q2:=hI2);(try simp only [ByteArray.size_append]);simp only [bsz,List.size_toArray,List.length_cons,List.length_nil];omega) ?_
     exact .inl ⟨⟨_,hb1⟩,[some 0,none],⟨rfl,⟨rfl,⟨rfl,rfl,rfl,rfl⟩,trivial⟩,⟨⟨rfl,rfl,⟨rfl,rfl,rfl,rfl,rfl,rfl,trivial⟩⟩,trivial⟩,trivial⟩⟩
   have hJ:=implJ x1.e hr0
   refine seqE ?_
   refine seqE ?_
   refine lenM fun hN3=>?_
   refine loopLI (fun (i:Nat) (s:ByteArray)=>s.size≤200+50*i) hg (by have q:=hJ;omega) [32,33] (fun x2=>[(3,.one (.v (.string x2.s))),(34,.one (.v (.int .i64 ((x2.i:Nat):Int))))]) (fun x2=>[.dead,.dead]) [none,none] ?_ (fun x2=>?_)
   · exact ⟨rfl,⟨rfl,rfl,rfl,rfl,trivial⟩,trivial,trivial⟩
   have hI2:=x2.hI
   try dsimp only at hI2
   refine seqE ?_
   refine seqE ?_
   refine tstL (fun hi2=>?_) (fun hi2=>?_)
   · have hb2:=(x2.bdy hi2).trans (impl_SpanText_b2.eq_1 ..)
     have hw2:=wrap_succ hi2 (by assumption)
     refine seqE ?_
     refine seqE ?_
     refine idxAt hi2 ?_
     refine litE (m:=2) rfl ?_
     refine .inl (⟨_,_,c_impl_AttrText (p0.Attrs[x2.i]'hi2),(FzAs.same _),?_⟩)
     refine litE (m:=4) rfl ?_
     refine andE (by have z1:=impl_NumText_size hr0.Trace;have z2:=impl_NumText_size hr0.Id;have z3:=impl_NumText_size hr0.Start;have z4:=impl_NumText_size hr0.End;have hl:=impl_SpanOk_len (s:=p0) (by simpa using h1);(try have y2:=impl_AttrText_size (hr0.Attrs.2 _ (List.getElem_mem hi2)).N);(try have q2:=hI2);(try simp only [ByteArray.size_append]);simp only [bsz,List.size_toArray,List.length_cons,List.length_nil];omega) ?_
     refine andE (by have z1:=impl_NumText_size hr0.Trace;have z2:=impl_NumText_size hr0.Id;have z3:=impl_NumText_size hr0.Start;have z4:=impl_NumText_size hr0.End;have hl:=impl_SpanOk_len (s:=p0) (by simpa using h1);(try have y2:=impl_AttrText_size (hr0.Attrs.2 _ (List.getElem_mem hi2)).N);(try have q2:=hI2);(try simp only [ByteArray.size_append]);simp only [bsz,List.size_toArray,List.length_cons,List.length_nil];omega) ?_
     exact x2.goE hi2 hb2 (by (try have y2:=impl_AttrText_size (hr0.Attrs.2 _ (List.getElem_mem hi2)).N);have q2:=hI2;(try simp only [ByteArray.size_append]);simp only [bsz,List.size_toArray,List.length_cons,List.length_nil];omega) [none,none] ⟨rfl,⟨rfl,(eqInt hw2),rfl,rfl,trivial⟩,trivial,trivial⟩
   have hg:=finE hg (x2.fin hi2)
   refine seqE ?_
   exact leafE hown hg
theorem c_impl_SpanText (p0:Span):FnOk prog 24 [.agg ((Span.cells false) p0)] ⟨.one (.v (.string (impl_SpanText p0))),[],[],false⟩ :=
 FnOk.fits ⟨_,func24,by kernel_rfl,by kernel_rfl⟩ (fun hf=>cr_impl_SpanText p0 (rg_Span hf.1))
theorem cat_loop {α ρ:Type} {f:α→ByteArray} {b:Nat→ByteArray→α→Step ByteArray ρ} {M:Nat}:∀(l:List α) (i:Nat) (s:ByteArray),(∀a∈l,(f a).size≤M)→(∀i s a,b i s a=.next (s++f a))→∃t,loopL b i s l=.fin t∧t.size≤s.size+M*l.length
 | [],i,s,_,_=>⟨s,rfl,by simp⟩
 | a :: l,i,s,hf,hb=>by
   unfold loopL
   rw [hb]
   obtain ⟨t,e,h⟩:=cat_loop l (i+1) (s++f a) (fun x hx=>hf x (by simp [hx])) hb
   refine ⟨t,e,?_⟩
   have:=hf a (by simp)
   rw [ByteArray.size_append] at h
   rw [List.length_cons,Nat.mul_add]
   omega
theorem spanText_run {s:Span} (ho:impl_SpanOk s=true):∃v,impl_SpanText_j1 s=.next v∧impl_SpanText s=Fin.get (fun s2=>s2) (loopL impl_SpanText_b2 0 v s.Attrs):=by
 unfold impl_SpanText impl_SpanText_j1
 rw [ho]
 cases s.Err <;> exact ⟨_,rfl,rfl⟩
theorem impl_SpanText_size {s:Span} (h:Span.rg s):(impl_SpanText s).size≤500:=by
 cases ho:impl_SpanOk s with
 | false=>unfold impl_SpanText;rw [ho];simp only [Bool.not_false,cond_true,bsz,List.size_toArray,List.length_cons,List.length_nil];omega
 | true =>
   have hl:=impl_SpanOk_len ho
   have hA:∀a∈s.Attrs,(ByteArray.mk #[32]++impl_AttrText a).size≤41:=fun a ha=>by
    have:=impl_AttrText_size (h.Attrs.2 a ha).N
    simp only [ByteArray.size_append,bsz,List.size_toArray,List.length_cons,List.length_nil];omega
   obtain ⟨v,e,e2⟩:=spanText_run ho
   have hv:=implJ e h
   obtain ⟨t,e3,ht⟩:=cat_loop (ρ:=ByteArray) (b:=impl_SpanText_b2) s.Attrs 0 v hA (fun _ _ _=>rfl)
   rw [e2,e3]
   show t.size≤500
   omega
def spec_l1Byte (p0:Cur):(Int×Cur) :=
 (bif (decide (p0.f_i < (((p0.f_b).length:Nat):Int))) then ((iAnd .i64 (IntKind.i64.wrap ((iAnd .i64 (iXor .i64 (iShr .i64 (IntKind.i64.wrap ((IntKind.i64.wrap (p0.f_h*6364136223846793005))+1442695040888963407)) 33) (iShr .i64 (IntKind.i64.wrap ((IntKind.i64.wrap (p0.f_h*6364136223846793005))+1442695040888963407)) 47)) 255)+(IntKind.i64.wrap (p0.f_b[(p0.f_i).toNat]?.getD default)))) 255),(Cur.mk p0.f_b (IntKind.i64.wrap (p0.f_i+1)) (IntKind.i64.wrap ((IntKind.i64.wrap (p0.f_h*6364136223846793005))+1442695040888963407)))) else ((iAnd .i64 (iXor .i64 (iShr .i64 (IntKind.i64.wrap ((IntKind.i64.wrap (p0.f_h*6364136223846793005))+1442695040888963407)) 33) (iShr .i64 (IntKind.i64.wrap ((IntKind.i64.wrap (p0.f_h*6364136223846793005))+1442695040888963407)) 47)) 255),(Cur.mk p0.f_b p0.f_i (IntKind.i64.wrap ((IntKind.i64.wrap (p0.f_h*6364136223846793005))+1442695040888963407)))))
theorem c_spec_l1Byte (p0:Cur) (hs:CurOk p0):FnOk prog 42 [.tup [.one (.b ((Cur.cells false) p0))]] ⟨.one (.v (.int .i64 (spec_l1Byte p0).1)),[.one (.b ((Cur.cells false) (spec_l1Byte p0).2))],[],false⟩:=by
 refine FnOk.introV (E:=env) envOk wide func42 rfl (by kernel_rfl) rfl ?_
 have hg:=spec_l1Byte.eq_1 p0
 have hown:(false=false→∀g:(Int×Cur),AV.Own (AV.one (.v (.int .i64 g.1))))∧(fun g:(Int×Cur)=>(Cur.cells false) g.2)=_∧(fun g:(Int×Cur)=>AV.one (.v (.int .i64 g.1)))=_:=⟨fun _ g=>.v _,rfl,rfl⟩
 exact seqE (seqE (seqE (.inl ⟨by kernel_rfl,andE (by (omega)) (andE (by (omega)) (seqE (seqE (.inl ⟨by kernel_rfl,lenM fun hN1=>brD hg (fun hg h2=>seqE (.inl ⟨by kernel_rfl,idxOf (l:=p0.f_b) (by have q:=hs.i0;omega) (fun hq3=>seqE (leafB hown hg))⟩)) (fun hg h2=>seqE (leafB hown hg))⟩))))⟩)))
theorem ok_l1Byte {c:Cur} (h:CurOk c):CurOk (spec_l1Byte c).2:=by
 obtain ⟨h1,h2,h3⟩:=h
 unfold spec_l1Byte
 by_cases hc:c.f_i < ((c.f_b.length:Nat):Int)
 · rw [decide_eq_true hc,cond_true,Go.Ev.wrap_small (n:=c.f_i+1) (by omega) (by omega)]
   exact ⟨by show 0≤c.f_i+1;omega,by show c.f_i+1≤((c.f_b.length:Nat):Int);omega,h3⟩
 · rw [decide_eq_false hc,cond_false]
   exact ⟨h1,h2,h3⟩
theorem bd_l1Byte (c:Cur):0≤(spec_l1Byte c).1∧(spec_l1Byte c).1≤255:=by
 unfold spec_l1Byte
 cases decide (c.f_i < ((c.f_b.length:Nat):Int)) <;> exact iAnd255 _
def spec_l1Below (p0:Cur) (p1:Int):(Int×Cur) :=
 (bif (decide (p1≤0)) then (0,p0) else (bif (decide (p1≤256)) then (bindV (spec_l1Byte p0) fun (v1:(Int×Cur))=>((Int.tmod v1.1 p1),v1.2)) else (bindV (spec_l1Byte p0) fun (v2:(Int×Cur))=>(bindV (spec_l1Byte v2.2) fun (v3:(Int×Cur))=>(bindV (spec_l1Byte v3.2) fun (v4:(Int×Cur))=>((Int.tmod (IntKind.i64.wrap ((IntKind.i64.wrap ((IntKind.i64.wrap (v2.1*65536))+(IntKind.i64.wrap (v3.1*256))))+v4.1)) p1),v4.2))))))
theorem c_spec_l1Below (p0:Cur) (p1:Int) (hs:CurOk p0):FnOk prog 29 [.tup [.one (.b ((Cur.cells false) p0))],.one (.v (.int .i64 p1))] ⟨.one (.v (.int .i64 (spec_l1Below p0 p1).1)),[.one (.b ((Cur.cells false) (spec_l1Below p0 p1).2))],[],false⟩:=by
 refine FnOk.introV (E:=env) envOk wide func29 rfl (by kernel_rfl) rfl ?_
 have hg:=spec_l1Below.eq_1 p0 p1
 have hown:(false=false→∀g:(Int×Cur),AV.Own (AV.one (.v (.int .i64 g.1))))∧(fun g:(Int×Cur)=>(Cur.cells false) g.2)=_∧(fun g:(Int×Cur)=>AV.one (.v (.int .i64 g.1)))=_:=⟨fun _ g=>.v _,rfl,rfl⟩
 exact seqE (seqE (seqE (brD hg (fun hg h1=>seqE (leafB hown hg)) (fun hg h1=>seqE (seqE (brD hg (fun hg h2=>seqE (.inr ⟨0,[],fun us3 hu3=>⟨_,(.same _),_,_,_,_,_,c_spec_l1Byte p0 (by assumption),(FzAs.same _),(.same _),trivial,(Int×Cur),(spec_l1Byte p0),(fun g=>(Cur.cells false) g.2),(fun g=>.one (.v (.int .i64 g.1))),rfl,rfl,fun v1 hvv1=>litE (m:=3) rfl (have hz4:=okE hvv1 (ok_l1Byte (by assumption));litE (m:=3) rfl (have hg:=bindE hvv1 hg;andE (by (omega)) (leafB hown hg)))⟩⟩)) (fun hg h2=>seqE (.inr ⟨0,[],fun us5 hu5=>⟨_,(.same _),_,_,_,_,_,c_spec_l1Byte p0 (by assumption),(FzAs.same _),(.same _),trivial,(Int×Cur),(spec_l1Byte p0),(fun g=>(Cur.cells false) g.2),(fun g=>.one (.v (.int .i64 g.1))),rfl,rfl,fun v2 hvv2=>litE (m:=3) rfl (have hz6:=okE hvv2 (ok_l1Byte (by assumption));litE (m:=3) rfl (have hg:=bindE hvv2 hg;seqE (.inr ⟨0,[],fun us7 hu7=>⟨_,(.same _),_,_,_,_,_,c_spec_l1Byte v2.2 (by assumption),(FzAs.same _),(.same _),trivial,(Int×Cur),(spec_l1Byte v2.2),(fun g=>(Cur.cells false) g.2),(fun g=>.one (.v (.int .i64 g.1))),rfl,rfl,fun v3 hvv3=>litE (m:=4) rfl (have hz8:=okE hvv3 (ok_l1Byte (by assumption));litE (m:=4) rfl (have hg:=bindE hvv3 hg;seqE (.inr ⟨0,[],fun us9 hu9=>⟨_,(.same _),_,_,_,_,_,c_spec_l1Byte v3.2 (by assumption),(FzAs.same _),(.same _),trivial,(Int×Cur),(spec_l1Byte v3.2),(fun g=>(Cur.cells false) g.2),(fun g=>.one (.v (.int .i64 g.1))),rfl,rfl,fun v4 hvv4=>litE (m:=5) rfl (have hz10:=okE hvv4 (ok_l1Byte (by assumption));litE (m:=5) rfl (have hg:=bindE hvv4 hg;seqE (andE (by (omega)) (leafB hown hg))))⟩⟩)))⟩⟩)))⟩⟩))))))))
theorem ok_l1Below {c:Cur} {n:Int} (h:CurOk c):CurOk (spec_l1Below c n).2:=by
 unfold spec_l1Below
 simp only [bindV]
 cases decide (n≤0)
 · cases decide (n≤256)
   · exact ok_l1Byte (ok_l1Byte (ok_l1Byte h))
   · exact ok_l1Byte h
 · exact h
theorem bd_l1Below (c:Cur) {n:Int} (h0:0 < n) (h1:n≤9223372036854775807):0≤(spec_l1Below c n).1∧(spec_l1Below c n).1 < n:=by
 unfold spec_l1Below
 simp only [bindV]
 rw [decide_eq_false (show ¬n≤0 by omega),cond_false]
 have tm:∀x:Int,0≤x→0≤Int.tmod x n∧Int.tmod x n < n:=fun x hx=>⟨Int.tmod_nonneg n hx,Int.tmod_lt_of_pos x h0⟩
 have b1:=bd_l1Byte c
 cases decide (n≤256)
 · refine tm _ ?_
   have b2:=bd_l1Byte (spec_l1Byte c).2
   have b3:=bd_l1Byte (spec_l1Byte (spec_l1Byte c).2).2
   simp (disch:=omega) only [Go.Ev.wrap_small]
   omega
 · exact tm _ b1.1
theorem l1Below_at {c:Cur} {n:Int} {v:Int×Cur} (e:v=spec_l1Below c n):0 < n→n≤9223372036854775807→0≤v.1∧v.1 < n:=fun h0 h1=>by rw [e];exact bd_l1Below c h0 h1
def spec_l1Int (p0:Cur) (p1:(List Int)):(Int×Cur) :=
 (bindV (spec_l1Below p0 (((p1).length:Nat):Int)) fun (v1:(Int×Cur))=>((p1[(v1.1).toNat]?.getD default),v1.2))
theorem c_spec_l1Int (p0:Cur) (p1:(List Int)) (hs:CurOk p0∧0 < p1.length∧p1.length≤256):FnOk prog 32 [.tup [.one (.b ((Cur.cells false) p0))],.one (.s false 1 (List.map cInt p1))] ⟨.one (.v (.int .i64 (spec_l1Int p0 p1).1)),[.one (.b ((Cur.cells false) (spec_l1Int p0 p1).2))],[],false⟩:=by
 refine FnOk.introV (E:=env) envOk wide func32 rfl (by kernel_rfl) rfl ?_
 have hg:=spec_l1Int.eq_1 p0 p1
 have hown:(false=false→∀g:(Int×Cur),AV.Own (AV.one (.v (.int .i64 g.1))))∧(fun g:(Int×Cur)=>(Cur.cells false) g.2)=_∧(fun g:(Int×Cur)=>AV.one (.v (.int .i64 g.1)))=_:=⟨fun _ g=>.v _,rfl,rfl⟩
 exact seqE (seqE (lenM fun hN1=>.inr ⟨0,[],fun us2 hu2=>⟨_,(.same _),_,_,_,_,_,c_spec_l1Below p0 (((p1).length:Nat):Int) (by exact hs.1),(FzAs.same _),(.same _),trivial,(Int×Cur),(spec_l1Below p0 (((p1).length:Nat):Int)),(fun g=>(Cur.cells false) g.2),(fun g=>.one (.v (.int .i64 g.1))),rfl,rfl,fun v1 hvv1=>litE (m:=3) rfl (have hz3:=okE hvv1 (ok_l1Below (by exact hs.1));have hlB:=l1Below_at hvv1;litE (m:=3) rfl (have hg:=bindE hvv1 hg;idxOf (l:=p1) (by have q:=bd_l1Below p0 (n:=((p1.length:Nat):Int)) (by have:=hs.2.1;omega) (by have:=hs.2.2;omega);rw [←hvv1] at q;omega) (fun hq4=>leafB hown hg)))⟩⟩))
theorem ok_l1Int {c:Cur} {l:List Int} (h:CurOk c):CurOk (spec_l1Int c l).2:=by
 show CurR (spec_l1Int c l)
 unfold spec_l1Int
 repeat' (with_reducible (first | assumption | refine bindC ?_ (fun v hv=>?_) | refine pairC ?_ | refine ok_l1Below ?_))
def spec_l1Str (p0:Cur) (p1:(List ByteArray)):(ByteArray×Cur) :=
 (bindV (spec_l1Below p0 (((p1).length:Nat):Int)) fun (v1:(Int×Cur))=>((p1[(v1.1).toNat]?.getD default),v1.2))
theorem c_spec_l1Str (p0:Cur) (p1:(List ByteArray)) (hs:CurOk p0∧0 < p1.length∧p1.length≤256):FnOk prog 46 [.tup [.one (.b ((Cur.cells false) p0))],.one (.s false 1 (List.map cStr p1))] ⟨.one (.v (.string (spec_l1Str p0 p1).1)),[.one (.b ((Cur.cells false) (spec_l1Str p0 p1).2))],[],false⟩:=by
 refine FnOk.introV (E:=env) envOk wide func46 rfl (by kernel_rfl) rfl ?_
 have hg:=spec_l1Str.eq_1 p0 p1
 have hown:(false=false→∀g:(ByteArray×Cur),AV.Own (AV.one (.v (.string g.1))))∧(fun g:(ByteArray×Cur)=>(Cur.cells false) g.2)=_∧(fun g:(ByteArray×Cur)=>AV.one (.v (.string g.1)))=_:=⟨fun _ g=>.v _,rfl,rfl⟩
 exact seqE (seqE (lenM fun hN1=>.inr ⟨0,[],fun us2 hu2=>⟨_,(.same _),_,_,_,_,_,c_spec_l1Below p0 (((p1).length:Nat):Int) (by exact hs.1),(FzAs.same _),(.same _),trivial,(Int×Cur),(spec_l1Below p0 (((p1).length:Nat):Int)),(fun g=>(Cur.cells false) g.2),(fun g=>.one (.v (.int .i64 g.1))),rfl,rfl,fun v1 hvv1=>litE (m:=3) rfl (have hz3:=okE hvv1 (ok_l1Below (by exact hs.1));have hlB:=l1Below_at hvv1;litE (m:=3) rfl (have hg:=bindE hvv1 hg;idxOf (l:=p1) (by have q:=bd_l1Below p0 (n:=((p1.length:Nat):Int)) (by have:=hs.2.1;omega) (by have:=hs.2.2;omega);rw [←hvv1] at q;omega) (fun hq4=>leafB hown hg)))⟩⟩))
theorem ok_l1Str {c:Cur} {l:List ByteArray} (h:CurOk c):CurOk (spec_l1Str c l).2:=by
 show CurR (spec_l1Str c l)
 unfold spec_l1Str
 repeat' (with_reducible (first | assumption | refine bindC ?_ (fun v hv=>?_) | refine pairC ?_ | refine ok_l1Below ?_))
def spec_l1Names (p0:Cur):(ByteArray×Cur) :=
 (bindV (spec_l1Str p0 [(ByteArray.mk #[107]),(ByteArray.mk #[112,97,116,104]),(ByteArray.mk #[99,111,100,101]),(ByteArray.mk #[117,115,101,114])]) fun (v1:(ByteArray×Cur))=>(v1.1,v1.2))
theorem c_spec_l1Names (p0:Cur) (hs:CurOk p0):FnOk prog 84 [.tup [.one (.b ((Cur.cells false) p0))]] ⟨.one (.v (.string (spec_l1Names p0).1)),[.one (.b ((Cur.cells false) (spec_l1Names p0).2))],[],false⟩:=by
 refine FnOk.introV (E:=env) envOk wide func84 rfl (by kernel_rfl) rfl ?_
 have hg:=spec_l1Names.eq_1 p0
 have hown:(false=false→∀g:(ByteArray×Cur),AV.Own (AV.one (.v (.string g.1))))∧(fun g:(ByteArray×Cur)=>(Cur.cells false) g.2)=_∧(fun g:(ByteArray×Cur)=>AV.one (.v (.string g.1)))=_:=⟨fun _ g=>.v _,rfl,rfl⟩
 exact seqE (seqE (.inr (.inr ⟨0,[],fun us1 hu1=>⟨_,(.same _),_,_,_,_,_,c_spec_l1Str p0 [(ByteArray.mk #[107]),(ByteArray.mk #[112,97,116,104]),(ByteArray.mk #[99,111,100,101]),(ByteArray.mk #[117,115,101,114])] (by exact ⟨by assumption,by simp,by simp⟩),(FzAs.same _),(.same _),trivial,(ByteArray×Cur),(spec_l1Str p0 [(ByteArray.mk #[107]),(ByteArray.mk #[112,97,116,104]),(ByteArray.mk #[99,111,100,101]),(ByteArray.mk #[117,115,101,114])]),(fun g=>(Cur.cells false) g.2),(fun g=>.one (.v (.string g.1))),rfl,rfl,fun v1 hvv1=>litE (m:=3) rfl (have hz2:=okE hvv1 (ok_l1Str (by assumption));litE (m:=3) rfl (have hg:=bindE hvv1 hg;leafB hown hg))⟩⟩)))
theorem ok_l1Names {c:Cur} (h:CurOk c):CurOk (spec_l1Names c).2:=by
 show CurR (spec_l1Names c)
 unfold spec_l1Names
 repeat' (with_reducible (first | assumption | refine bindC ?_ (fun v hv=>?_) | refine pairC ?_ | refine ok_l1Str ?_))
def spec_l5Draw_j1 (p1:Int) (v1:(Int×Cur)):Step ((List Int)×Int×Int×Int) (Pol×Cur) :=
 (bif (p1==1) then (bif (decide (v1.1≥7)) then (bindV (spec_l1Below v1.2 6) fun (v2:(Int×Cur))=>(.next (v2.2.f_b,v2.2.f_i,v2.2.f_h,(IntKind.i64.wrap (1+v2.1))))) else (.next (v1.2.f_b,v1.2.f_i,v1.2.f_h,v1.1))) else (.next (v1.2.f_b,v1.2.f_i,v1.2.f_h,v1.1)))
def spec_l5Draw_j2 (s1:(List Int)×Int×Int×Int):Step (Bool) (Pol×Cur) :=
 (bif (s1.2.2.2==7) then (.next (s1.2.2.2==7)) else (.next (s1.2.2.2==8)))
def spec_l5Draw_b3 (r0:((Cur)→(Int)→((Pol×Cur)))) (p1:Int) (s3:(List Pol)×(List Int)×Int×Int×Int):Step ((List Pol)×(List Int)×Int×Int×Int) (Pol×Cur) :=
 (bif (decide (s3.2.2.2.2 > 0)) then (bindV (r0 (Cur.mk s3.2.1 s3.2.2.1 s3.2.2.2.1) (IntKind.i64.wrap (p1 - 1))) fun (v9:(Pol×Cur))=>(.next ((s3.1++[v9.1]),v9.2.f_b,v9.2.f_i,v9.2.f_h,(IntKind.i64.wrap (s3.2.2.2.2 - 1))))) else (.stop (s3.1,s3.2.1,s3.2.2.1,s3.2.2.2.1,s3.2.2.2.2)))
def spec_l5DrawR:Nat→(Cur)→(Int)→((Pol×Cur))
 | 0,_,_=>default
 | n+1,p0,p1=>(bindV (spec_l1Int p0 [1,2,3,4,5,6,6,7,8,9]) fun (v1:(Int×Cur))=>(Step.get (fun s1=>(bif (s1.2.2.2==3) then (bindV (spec_l1Int (Cur.mk s1.1 s1.2.1 s1.2.2.1) [0,1,5,20]) fun (v3:(Int×Cur))=>((Pol.mk s1.2.2.2 v3.1 (ByteArray.mk #[]) (ByteArray.mk #[]) ([]:List Pol)),v3.2)) else (bif (s1.2.2.2==4) then (bindV (spec_l1Names (Cur.mk s1.1 s1.2.1 s1.2.2.1)) fun (v4:(ByteArray×Cur))=>(bindV (spec_l1Str v4.2 [(ByteArray.mk #[97]),(ByteArray.mk #[98]),(ByteArray.mk #[111,107])]) fun (v5:(ByteArray×Cur))=>((Pol.mk s1.2.2.2 0 v4.1 v5.1 ([]:List Pol)),v5.2))) else (bif (s1.2.2.2==5) then (bindV (spec_l1Names (Cur.mk s1.1 s1.2.1 s1.2.2.1)) fun (v6:(ByteArray×Cur))=>(bindV (spec_l1Int v6.2 [0,1,200,500]) fun (v7:(Int×Cur))=>((Pol.mk s1.2.2.2 v7.1 v6.1 (ByteArray.mk #[]) ([]:List Pol)),v7.2))) else (Step.get (fun s2=>(bif s2 then (bindV (spec_l1Below (Cur.mk s1.1 s1.2.1 s1.2.2.1) 2) fun (v8:(Int×Cur))=>(Fin.get (fun s3=>((Pol.mk s1.2.2.2 0 (ByteArray.mk #[]) (ByteArray.mk #[]) s3.1),(Cur.mk s3.2.1 s3.2.2.1 s3.2.2.2.1))) (loopW (spec_l5Draw_b3 (spec_l5DrawR n) p1) ((fun s:List Pol×List Int×Int×Int×Int=>s.2.2.2.2.toNat) (([]:List Pol),v8.2.f_b,v8.2.f_i,v8.2.f_h,(IntKind.i64.wrap (1+v8.1)))) (([]:List Pol),v8.2.f_b,v8.2.f_i,v8.2.f_h,(IntKind.i64.wrap (1+v8.1)))))) else (bif (s1.2.2.2==9) then (bindV ((spec_l5DrawR n) (Cur.mk s1.1 s1.2.1 s1.2.2.1) (IntKind.i64.wrap (p1 - 1))) fun (v10:(Pol×Cur))=>((Pol.mk s1.2.2.2 0 (ByteArray.mk #[]) (ByteArray.mk #[]) [v10.1]),v10.2)) else ((Pol.mk s1.2.2.2 0 (ByteArray.mk #[]) (ByteArray.mk #[]) ([]:List Pol)),(Cur.mk s1.1 s1.2.1 s1.2.2.1))))) (spec_l5Draw_j2 s1)))))) (spec_l5Draw_j1 p1 v1)))
theorem l5K {p1:Int} {v:Int×Cur} {s:List Int×Int×Int×Int} (e:spec_l5Draw_j1 p1 v=.next s) (h:CurOk v.2):CurOk (Cur.mk s.1 s.2.1 s.2.2.1)∧(p1=1→s.2.2.2≤6):=by
 unfold spec_l5Draw_j1 at e
 by_cases h1:p1=1
 · subst h1
   rw [show ((1:Int)==1)=true from rfl,cond_true] at e
   by_cases h2:v.1≥7
   · rw [decide_eq_true h2,cond_true] at e
     unfold bindV at e
     have q:=bd_l1Below v.2 (n:=6) (by omega) (by omega)
     have k:=ok_l1Below (n:=6) h
     cases e
     refine ⟨k,fun _=>?_⟩
     show IntKind.i64.wrap (1+(spec_l1Below v.2 6).1)≤6
     rw [Go.Ev.wrap_small (by omega) (by omega)];omega
   · rw [decide_eq_false h2,cond_false] at e
     cases e
     exact ⟨h,fun _=>by show v.1≤6;omega⟩
 · rw [show (p1==1)=false by simpa using h1,cond_false] at e
   cases e
   exact ⟨h,fun h2=>absurd h2 h1⟩
theorem l5J {s:List Int×Int×Int×Int} {b:Bool} (e:spec_l5Draw_j2 s=.next b):b=true→s.2.2.2=7∨s.2.2.2=8:=by
 intro hb
 subst hb
 unfold spec_l5Draw_j2 at e
 by_cases h:s.2.2.2=7
 · exact .inl h
 · rw [show (s.2.2.2==7)=false by simpa using h,cond_false] at e
   exact .inr (by simpa using e)
theorem ok_l5DrawR:∀(n:Nat) {c:Cur} {d:Int},CurOk c→CurOk (spec_l5DrawR n c d).2
 | 0,c,d,h=>⟨Int.le_refl 0,Int.le_refl 0,Nat.zero_le _⟩
 | n+1,c,d,h=>by
   have ih:∀{c:Cur} {d:Int},CurOk c→CurOk (spec_l5DrawR n c d).2:=ok_l5DrawR n
   show CurR (spec_l5DrawR (n+1) c d)
   rw [spec_l5DrawR.eq_2]
   refine bindC (ok_l1Int h) (fun v1 hv1=>?_)
   refine stepC (P:=fun s=>CurOk (Cur.mk s.1 s.2.1 s.2.2.1)) (by unfold spec_l5Draw_j1;exact StC.bif (StC.bif (StC.bind (ok_l1Below hv1) (fun v hv=>StC.nx hv)) (StC.nx hv1)) (StC.nx hv1)) (fun s hs=>?_)
   refine bifC (bindC (ok_l1Int hs) (fun v hv=>hv)) (bifC (bindC (ok_l1Names hs) (fun v hv=>bindC (ok_l1Str hv) (fun w hw=>hw))) (bifC (bindC (ok_l1Names hs) (fun v hv=>bindC (ok_l1Int hv) (fun w hw=>hw))) ?_))
   refine stepC (P:=fun _=>True) (by unfold spec_l5Draw_j2;exact StC.bif (StC.nx trivial) (StC.nx trivial)) (fun b _=>?_)
   refine bifC (bindC (ok_l1Below hs) (fun v hv=>?_)) (bifC (bindC (ih hs) (fun v hv=>hv)) hs)
   refine finC (P:=fun s:List Pol×List Int×Int×Int×Int=>CurOk (Cur.mk s.2.1 s.2.2.1 s.2.2.2.1)) (loopW_ind (P:=fun s:List Pol×List Int×Int×Int×Int=>CurOk (Cur.mk s.2.1 s.2.2.1 s.2.2.2.1)) (fun s hs=>?_) _ _ hv) (fun s hs=>hs)
   unfold spec_l5Draw_b3
   exact StC.bif (StC.bind (ih hs) (fun v hv=>StC.nx hv)) (StC.st hs)
theorem ok_l5DrawX {n:Nat} {c:Cur} {d:Int} (h:CurOk c):CurOk (spec_l5DrawR n c d).2:=ok_l5DrawR n h
theorem cR_spec_l5Draw:∀(n:Nat) (p0:Cur) (p1:Int),p1.toNat < n→CurOk p0∧1≤p1∧p1≤100→FnOk prog 67 [.tup [.one (.b ((Cur.cells false) p0))],.one (.v (.int .i64 p1))] ⟨.agg (Pol.opn true (spec_l5DrawR n p0 p1).1),[.one (.b ((Cur.cells false) (spec_l5DrawR n p0 p1).2))],[],false⟩:=by
 intro n
 induction n with
 | zero=>intro p0 p1 hd0;omega
 | succ n ih =>
   intro p0 p1 hd0 hs
   refine FnOk.introV (E:=env) envOk wide func67 rfl (by kernel_rfl) rfl ?_
   have hg:spec_l5DrawR (n+1) p0 p1=_:=spec_l5DrawR.eq_2 ..
   have hown:(false=false→∀g:(Pol×Cur),AV.Own (AV.agg (Pol.opn true g.1)))∧(fun g:(Pol×Cur)=>(Cur.cells false) g.2)=_∧(fun g:(Pol×Cur)=>AV.agg (Pol.opn true g.1))=_:=⟨fun _ g=>ownO_Pol _,rfl,rfl⟩
   refine seqE ?_
   refine litE (m:=2) rfl ?_
   refine seqE ?_
   refine .inr ?_
   refine .inr ⟨0,[],fun us1 hu1=>⟨_,(.same _),_,_,_,_,_,c_spec_l1Int p0 [1,2,3,4,5,6,6,7,8,9] (by have k1:=hs.2.1;have k2:=hs.2.2;exact ⟨by exact hs.1,by simp,by simp⟩),(FzAs.same _),(.same _),trivial,(Int×Cur),(spec_l1Int p0 [1,2,3,4,5,6,6,7,8,9]),(fun g=>(Cur.cells false) g.2),(fun g=>.one (.v (.int .i64 g.1))),rfl,rfl,fun v1 hvv1=>?_⟩⟩
   refine litE (m:=4) rfl ?_
   have hz2:=okE hvv1 (ok_l1Int (by exact hs.1))
   refine litE (m:=4) rfl ?_
   have hg:=bindE hvv1 hg
   refine litE (m:=4) rfl ?_
   refine joinE hg [0,1,4,5] (fun x1=>[]) (fun x1=>[.new ⟨3,true,[[.s false 1 (List.map cU8 x1.s.1),.v (.int .i64 x1.s.2.1),.v (.int .i64 x1.s.2.2.1)]],0⟩,.dead,.keep 2,.dead,.new ⟨5,true,[[.v (.int .i64 x1.s.2.2.2),.v (.int .i64 0),.v (.string (ByteArray.mk #[])),.v (.string (ByteArray.mk #[])),.s true 5 (List.map (Pol.cells true) ([]:List Pol))]],0⟩,.dead]) (fun hb1=>?_) (fun x1 hg=>?_)
   · have hb1:=hb1.trans (spec_l5Draw_j1.eq_1 ..)
     refine seqE ?_
     refine brQ hb1 (fun hb1 h3=>?_) (fun hb1 h3=>.inl ⟨⟨_,hb1⟩,[some 0,none,some 2,none,some 4,none],(by repeat' constructor)⟩)
     refine brD hb1 (fun hb1 h4=>?_) (fun hb1 h4=>.inl ⟨⟨_,hb1⟩,[some 0,none,some 2,none,some 4,none],(by repeat' constructor)⟩)
     refine .inr ⟨0,[],fun us5 hu5=>⟨_,(.same _),_,_,_,_,_,c_spec_l1Below v1.2 6 (by have k1:=hs.2.1;have k2:=hs.2.2;(assumption)),(FzAs.same _),(.same _),trivial,(Int×Cur),(spec_l1Below v1.2 6),(fun g=>(Cur.cells false) g.2),(fun g=>.one (.v (.int .i64 g.1))),rfl,rfl,fun v2 hvv2=>?_⟩⟩
     refine litE (m:=6) rfl ?_
     have hz6:=okE hvv2 (ok_l1Below (by assumption));have hlB:=l1Below_at hvv2
     refine litE (m:=6) rfl ?_
     have hb1:=bindE hvv2 hb1
     exact .inl ⟨⟨_,hb1⟩,[some 0,none,some 2,none,some 4,none],(by repeat' constructor)⟩
   have hK:=l5K x1.e (by assumption)
   refine seqE ?_
   refine seqE ?_
   refine seqE ?_
   refine brQ hg (fun hg h7=>?_) (fun hg h7=>?_)
   · refine .inr ?_
     refine .inr ⟨0,[],fun us8 hu8=>⟨_,(.same _),_,_,_,_,_,c_spec_l1Int (Cur.mk x1.s.1 x1.s.2.1 x1.s.2.2.1) [0,1,5,20] (by have k1:=hs.2.1;have k2:=hs.2.2;exact ⟨by exact hK.1,by simp,by simp⟩),(FzAs.same _),(.same _),trivial,(Int×Cur),(spec_l1Int (Cur.mk x1.s.1 x1.s.2.1 x1.s.2.2.1) [0,1,5,20]),(fun g=>(Cur.cells false) g.2),(fun g=>.one (.v (.int .i64 g.1))),rfl,rfl,fun v3 hvv3=>?_⟩⟩
     refine litE (m:=7) rfl ?_
     have hz9:=okE hvv3 (ok_l1Int (by exact hK.1))
     refine litE (m:=7) rfl ?_
     have hg:=bindE hvv3 hg
     refine seqE ?_
     exact leafB hown hg
   · refine seqE ?_
     refine brQ hg (fun hg h10=>?_) (fun hg h10=>?_)
     · refine seqE ?_
       refine .inr ⟨0,[],fun us11 hu11=>⟨_,(.same _),_,_,_,_,_,c_spec_l1Names (Cur.mk x1.s.1 x1.s.2.1 x1.s.2.2.1) (by have k1:=hs.2.1;have k2:=hs.2.2;(exact hK.1)),(FzAs.same _),(.same _),trivial,(ByteArray×Cur),(spec_l1Names (Cur.mk x1.s.1 x1.s.2.1 x1.s.2.2.1)),(fun g=>(Cur.cells false) g.2),(fun g=>.one (.v (.string g.1))),rfl,rfl,fun v4 hvv4=>?_⟩⟩
       refine litE (m:=7) rfl ?_
       have hz12:=okE hvv4 (ok_l1Names (by exact hK.1))
       refine litE (m:=7) rfl ?_
       have hg:=bindE hvv4 hg
       refine .inr ?_
       refine .inr ⟨0,[],fun us13 hu13=>⟨_,(.same _),_,_,_,_,_,c_spec_l1Str v4.2 [(ByteArray.mk #[97]),(ByteArray.mk #[98]),(ByteArray.mk #[111,107])] (by have k1:=hs.2.1;have k2:=hs.2.2;exact ⟨by assumption,by simp,by simp⟩),(FzAs.same _),(.same _),trivial,(ByteArray×Cur),(spec_l1Str v4.2 [(ByteArray.mk #[97]),(ByteArray.mk #[98]),(ByteArray.mk #[111,107])]),(fun g=>(Cur.cells false) g.2),(fun g=>.one (.v (.string g.1))),rfl,rfl,fun v5 hvv5=>?_⟩⟩
       refine litE (m:=8) rfl ?_
       have hz14:=okE hvv5 (ok_l1Str (by assumption))
       refine litE (m:=8) rfl ?_
       have hg:=bindE hvv5 hg
       refine seqE ?_
       exact leafB hown hg
     · refine seqE ?_
       refine brQ hg (fun hg h15=>?_) (fun hg h15=>?_)
       · refine seqE ?_
         refine .inr ⟨0,[],fun us16 hu16=>⟨_,(.same _),_,_,_,_,_,c_spec_l1Names (Cur.mk x1.s.1 x1.s.2.1 x1.s.2.2.1) (by have k1:=hs.2.1;have k2:=hs.2.2;(exact hK.1)),(FzAs.same _),(.same _),trivial,(ByteArray×Cur),(spec_l1Names (Cur.mk x1.s.1 x1.s.2.1 x1.s.2.2.1)),(fun g=>(Cur.cells false) g.2),(fun g=>.one (.v (.string g.1))),rfl,rfl,fun v6 hvv6=>?_⟩⟩
         refine litE (m:=7) rfl ?_
         have hz17:=okE hvv6 (ok_l1Names (by exact hK.1))
         refine litE (m:=7) rfl ?_
         have hg:=bindE hvv6 hg
         refine .inr ?_
         refine .inr ⟨0,[],fun us18 hu18=>⟨_,(.same _),_,_,_,_,_,c_spec_l1Int v6.2 [0,1,200,500] (by have k1:=hs.2.1;have k2:=hs.2.2;exact ⟨by assumption,by simp,by simp⟩),(FzAs.same _),(.same _),trivial,(Int×Cur),(spec_l1Int v6.2 [0,1,200,500]),(fun g=>(Cur.cells false) g.2),(fun g=>.one (.v (.int .i64 g.1))),rfl,rfl,fun v7 hvv7=>?_⟩⟩
         refine litE (m:=8) rfl ?_
         have hz19:=okE hvv7 (ok_l1Int (by assumption))
         refine litE (m:=8) rfl ?_
         have hg:=bindE hvv7 hg
         refine seqE ?_
         exact leafB hown hg
       · refine joinE hg [0,1,4,5,25] (fun x2=>[(50,.one (.v (.bool x2.s)))]) (fun x2=>[.keep 0,.dead,.keep 2,.dead,.keep 4,.dead]) (fun hb2=>?_) (fun x2 hg=>?_)
         · have hb2:=hb2.trans (spec_l5Draw_j2.eq_1 ..)
           refine seqE ?_
           exact brQ hb2 (fun hb2 h20=>.inl ⟨⟨_,hb2⟩,[some 0,none,some 2,none,some 4,none],(by repeat' constructor)⟩) (fun hb2 h20=>.inl ⟨⟨_,hb2⟩,[some 0,none,some 2,none,some 4,none],(by repeat' constructor)⟩)
         have hJ:=l5J x2.e
         refine brE hg (fun hg h21=>?_) (fun hg h21=>?_)
         · refine seqE ?_
           refine .inr ⟨0,[],fun us22 hu22=>⟨_,(.same _),_,_,_,_,_,c_spec_l1Below (Cur.mk x1.s.1 x1.s.2.1 x1.s.2.2.1) 2 (by have k1:=hs.2.1;have k2:=hs.2.2;(exact hK.1)),(FzAs.same _),(.same _),trivial,(Int×Cur),(spec_l1Below (Cur.mk x1.s.1 x1.s.2.1 x1.s.2.2.1) 2),(fun g=>(Cur.cells false) g.2),(fun g=>.one (.v (.int .i64 g.1))),rfl,rfl,fun v8 hvv8=>?_⟩⟩
           refine litE (m:=7) rfl ?_
           have hz23:=okE hvv8 (ok_l1Below (by exact hK.1));have hlB:=l1Below_at hvv8
           refine litE (m:=7) rfl ?_
           have hg:=bindE hvv8 hg
           refine loopWE (m:=(fun s:List Pol×List Int×Int×Int×Int=>s.2.2.2.2.toNat)) (s0:=(([]:List Pol),v8.2.f_b,v8.2.f_i,v8.2.f_h,(IntKind.i64.wrap (1+v8.1)))) (fun s:List Pol×List Int×Int×Int×Int=>CurOk (Cur.mk s.2.1 s.2.2.1 s.2.2.2.1)∧0≤s.2.2.2.2∧(s.1.length:Int)+s.2.2.2.2≤2) hg (by have q:=hlB (by omega) (by omega);exact ⟨by assumption,by ((simp (disch:=omega) only [wrap_small,mid_eq,mid_eq1,mid_eq2,mid_eq3,List.length_map,List.length_set] <;> omega)),by simp only [List.length_nil];((simp (disch:=omega) only [wrap_small,mid_eq,mid_eq1,mid_eq2,mid_eq3,List.length_map,List.length_set] <;> omega))⟩) [0,1,4,5] (fun x3=>[(6,.one (.v (.int .i64 x3.s.2.2.2.2)))]) (fun x3=>[.new ⟨3,true,[[.s false 1 (List.map cU8 x3.s.2.1),.v (.int .i64 x3.s.2.2.1),.v (.int .i64 x3.s.2.2.2.1)]],0⟩,.dead,.keep 2,.dead,.new ⟨5,true,[[.v (.int .i64 x1.s.2.2.2),.v (.int .i64 0),.v (.string (ByteArray.mk #[])),.v (.string (ByteArray.mk #[])),.n 7 [] 1 0 (x3.s.1).length]],0⟩,.dead,.dead,.new ⟨5,false,List.map (Pol.cells true) x3.s.1,0⟩]) [some 0,none,some 2,none,some 4,none,none,none] ?_ (fun x3=>?_)
           · exact (by repeat' constructor)
           have hI3:=x3.hI
           try dsimp only at hI3
           have hb3:=x3.bdy.trans (spec_l5Draw_b3.eq_1 ..)
           refine seqE ?_
           refine seqE ?_
           refine brD hb3 (fun hb3 h24=>?_) (fun hb3 h24=>?_)
           · refine seqE ?_
             refine seqE ?_
             refine .inr ⟨0,[],fun us25 hu25=>⟨_,(.same _),_,_,_,_,_,ih (Cur.mk x3.s.2.1 x3.s.2.2.1 x3.s.2.2.2.1) (IntKind.i64.wrap (p1 - 1)) (by have q1:=hs.2.1;have q2:=hs.2.2;((simp (disch:=omega) only [wrap_small,mid_eq,mid_eq1,mid_eq2,mid_eq3,List.length_map,List.length_set] <;> omega))) (by have k1:=hs.2.1;have k2:=hs.2.2;(have q7:p1≠1:=(fun hp=>by have k3:=hK.2 hp;(have k4:=hJ (by assumption);omega));exact ⟨by exact hI3.1,by ((simp (disch:=omega) only [wrap_small,mid_eq,mid_eq1,mid_eq2,mid_eq3,List.length_map,List.length_set] <;> omega)),by ((simp (disch:=omega) only [wrap_small,mid_eq,mid_eq1,mid_eq2,mid_eq3,List.length_map,List.length_set] <;> omega))⟩)),(FzAs.same _),(.same _),trivial,(Pol×Cur),((spec_l5DrawR n) (Cur.mk x3.s.2.1 x3.s.2.2.1 x3.s.2.2.2.1) (IntKind.i64.wrap (p1 - 1))),(fun g=>(Cur.cells false) g.2),(fun g=>.agg (Pol.opn true g.1)),rfl,rfl,fun v9 hvv9=>?_⟩⟩
             refine litE (m:=9) rfl ?_
             have hz26:=okE hvv9 (ok_l5DrawX (by exact hI3.1))
             refine litE (m:=9) rfl ?_
             have hb3:=bindE hvv9 hb3
             refine litE (m:=10) rfl ?_
             refine .inl (litE (m:=11) rfl ?_)
             refine .inl ?_
             refine rowsE (Y:=List.map (Pol.cells true) (x3.s.1++[v9.1])) (by simp [subR0,subR1,-List.map_take,-List.map_drop,-List.drop_one,take_map',drop_map',fz_Pol,fzMap fz_Pol,shMap sh_Pol,Pol.cells_eq];rfl) ?_
             refine appB (b:=72) (hs:=by have q1:=hI3.2;refine ⟨?_,?_⟩;(show List.length _*72≤_);(try simp only [List.length_map,List.length_append,List.length_cons,List.length_nil,List.length_take,List.length_drop]);omega;(try simp only [List.length_map,List.length_append,List.length_cons,List.length_nil,List.length_take,List.length_drop]);omega;done) ?_
             refine litE (m:=12) rfl ?_
             exact x3.goE hb3 (show (fun s:List Pol×List Int×Int×Int×Int=>CurOk (Cur.mk s.2.1 s.2.2.1 s.2.2.2.1)∧0≤s.2.2.2.2∧(s.1.length:Int)+s.2.2.2.2≤2) ((x3.s.1++[v9.1]),v9.2.f_b,v9.2.f_i,v9.2.f_h,(IntKind.i64.wrap (x3.s.2.2.2.2 - 1)))∧(fun s:List Pol×List Int×Int×Int×Int=>s.2.2.2.2.toNat) ((x3.s.1++[v9.1]),v9.2.f_b,v9.2.f_i,v9.2.f_h,(IntKind.i64.wrap (x3.s.2.2.2.2 - 1))) < (fun s:List Pol×List Int×Int×Int×Int=>s.2.2.2.2.toNat) x3.s by have f2:=hI3.2;exact ⟨⟨by assumption,by ((simp (disch:=omega) only [wrap_small,mid_eq,mid_eq1,mid_eq2,mid_eq3,List.length_map,List.length_set] <;> omega)),by simp only [List.length_append,List.length_cons,List.length_nil];((simp (disch:=omega) only [wrap_small,mid_eq,mid_eq1,mid_eq2,mid_eq3,List.length_map,List.length_set] <;> omega))⟩,by ((simp (disch:=omega) only [wrap_small,mid_eq,mid_eq1,mid_eq2,mid_eq3,List.length_map,List.length_set] <;> omega))⟩) [some 0,none,some 2,none,some 4,none,none,some 12] ⟨rfl,(by repeat' constructor),⟨(by repeat' constructor),(by repeat' constructor),⟨rfl,rfl,⟨rfl,rfl,rfl,rfl,⟨rfl,rfl,rfl,rfl,by ((simp [LstSt.init,LstSt.step,LstInv.init,CntSt.init,CntSt.step,CntInv.init,WhlSt.init,WhlSt.step];done))⟩,trivial⟩⟩,⟨rfl,rfl,rfl⟩,trivial⟩,⟨⟨rfl,rfl,rfl,rfl⟩,trivial⟩⟩
           · have hg:=finE hg (x3.outS hb3)
             refine seqE ?_
             exact leafB hown hg
         · refine seqE ?_
           refine brQ hg (fun hg h27=>?_) (fun hg h27=>?_)
           · refine seqE ?_
             refine .inr ⟨0,[],fun us28 hu28=>⟨_,(.same _),_,_,_,_,_,ih (Cur.mk x1.s.1 x1.s.2.1 x1.s.2.2.1) (IntKind.i64.wrap (p1 - 1)) (by have q1:=hs.2.1;have q2:=hs.2.2;((simp (disch:=omega) only [wrap_small,mid_eq,mid_eq1,mid_eq2,mid_eq3,List.length_map,List.length_set] <;> omega))) (by have k1:=hs.2.1;have k2:=hs.2.2;(have q7:p1≠1:=(fun hp=>by have k3:=hK.2 hp;omega);exact ⟨by exact hK.1,by ((simp (disch:=omega) only [wrap_small,mid_eq,mid_eq1,mid_eq2,mid_eq3,List.length_map,List.length_set] <;> omega)),by ((simp (disch:=omega) only [wrap_small,mid_eq,mid_eq1,mid_eq2,mid_eq3,List.length_map,List.length_set] <;> omega))⟩)),(FzAs.same _),(.same _),trivial,(Pol×Cur),((spec_l5DrawR n) (Cur.mk x1.s.1 x1.s.2.1 x1.s.2.2.1) (IntKind.i64.wrap (p1 - 1))),(fun g=>(Cur.cells false) g.2),(fun g=>.agg (Pol.opn true g.1)),rfl,rfl,fun v10 hvv10=>?_⟩⟩
             refine litE (m:=7) rfl ?_
             have hz29:=okE hvv10 (ok_l5DrawX (by exact hK.1))
             refine litE (m:=7) rfl ?_
             have hg:=bindE hvv10 hg
             refine litE (m:=8) rfl ?_
             refine .inl (litE (m:=9) rfl ?_)
             refine .inl ?_
             refine rowsE (Y:=List.map (Pol.cells true) [v10.1]) (by simp [subR0,subR1,-List.map_take,-List.map_drop,-List.drop_one,take_map',drop_map',fz_Pol,fzMap fz_Pol,shMap sh_Pol,Pol.cells_eq];rfl) ?_
             refine appB (b:=72) (hs:=by refine ⟨?_,?_⟩ <;> simp <;> omega) ?_
             refine litE (m:=10) rfl ?_
             refine seqE ?_
             exact leafB hown hg
           · refine seqE ?_
             exact leafB hown hg
def spec_l5Draw (p0:Cur) (p1:Int):(Pol×Cur):=spec_l5DrawR (p1.toNat+1) p0 p1
theorem c_spec_l5Draw (p0:Cur) (p1:Int) (hs:CurOk p0∧1≤p1∧p1≤100):FnOk prog 67 [.tup [.one (.b ((Cur.cells false) p0))],.one (.v (.int .i64 p1))] ⟨.agg (Pol.opn true (spec_l5Draw p0 p1).1),[.one (.b ((Cur.cells false) (spec_l5Draw p0 p1).2))],[],false⟩:=cR_spec_l5Draw _ p0 p1 (Nat.lt_succ_self _) hs
theorem ok_l5Draw {c:Cur} {d:Int} (h:CurOk c):CurOk (spec_l5Draw c d).2:=ok_l5DrawR _ h
theorem l1Int_mem {c:Cur} {l:List Int} (h:0 < l.length∧l.length≤256):(spec_l1Int c l).1∈l:=by
 have q:=bd_l1Below c (n:=((l.length:Nat):Int)) (by omega) (by omega)
 exact getD_mem (by omega)
theorem l1Str_mem {c:Cur} {l:List ByteArray} (h:0 < l.length∧l.length≤256):(spec_l1Str c l).1∈l:=by
 have q:=bd_l1Below c (n:=((l.length:Nat):Int)) (by omega) (by omega)
 exact getD_mem (by omega)
def spec_l13Draw (p0:Cur):(Conf×Cur) :=
 (bindV (spec_l1Below p0 3) fun (v1:(Int×Cur))=>(bindV (spec_l1Int v1.2 [1,2,3,9]) fun (v2:(Int×Cur))=>(bindV (spec_l1Int v2.2 [40,60,90,190]) fun (v3:(Int×Cur))=>(bindV (spec_l1Below v3.2 4) fun (v4:(Int×Cur))=>(bindV (spec_l1Below v4.2 3) fun (v5:(Int×Cur))=>(bindV (spec_l1Below v5.2 3) fun (v6:(Int×Cur))=>(bindV (spec_l1Int v6.2 [0,1,2,4]) fun (v7:(Int×Cur))=>(bindV (spec_l5Draw v7.2 3) fun (v8:(Pol×Cur))=>((Conf.mk (IntKind.i64.wrap (1+v1.1)) v2.1 v3.1 (IntKind.i64.wrap (1+v4.1)) (IntKind.i64.wrap (1+v5.1)) v6.1 v7.1 v8.1),v8.2)))))))))
theorem c_spec_l13Draw (p0:Cur) (hs:CurOk p0):FnOk prog 48 [.tup [.one (.b ((Cur.cells false) p0))]] ⟨.agg ((Conf.cells true) (spec_l13Draw p0).1),[.one (.b ((Cur.cells false) (spec_l13Draw p0).2))],[],false⟩:=by
 refine FnOk.introV (E:=env) envOk wide func48 rfl (by kernel_rfl) rfl ?_
 have hg:=spec_l13Draw.eq_1 p0
 have hown:(false=false→∀g:(Conf×Cur),AV.Own (AV.agg ((Conf.cells true) g.1)))∧(fun g:(Conf×Cur)=>(Cur.cells false) g.2)=_∧(fun g:(Conf×Cur)=>AV.agg ((Conf.cells true) g.1))=_:=⟨fun _ g=>own_Conf _,rfl,rfl⟩
 exact seqE (litE (m:=2) rfl (seqE (.inr ⟨0,[],fun us1 hu1=>⟨_,(.same _),_,_,_,_,_,c_spec_l1Below p0 3 (by assumption),(FzAs.same _),(.same _),trivial,(Int×Cur),(spec_l1Below p0 3),(fun g=>(Cur.cells false) g.2),(fun g=>.one (.v (.int .i64 g.1))),rfl,rfl,fun v1 hvv1=>litE (m:=4) rfl (have hz2:=okE hvv1 (ok_l1Below (by assumption));have hlB:=l1Below_at hvv1;litE (m:=4) rfl (have hg:=bindE hvv1 hg;.inr (.inr ⟨0,[],fun us3 hu3=>⟨_,(.same _),_,_,_,_,_,c_spec_l1Int v1.2 [1,2,3,9] (by exact ⟨by assumption,by simp,by simp⟩),(FzAs.same _),(.same _),trivial,(Int×Cur),(spec_l1Int v1.2 [1,2,3,9]),(fun g=>(Cur.cells false) g.2),(fun g=>.one (.v (.int .i64 g.1))),rfl,rfl,fun v2 hvv2=>litE (m:=5) rfl (have hz4:=okE hvv2 (ok_l1Int (by assumption));litE (m:=5) rfl (have hg:=bindE hvv2 hg;.inr (.inr ⟨0,[],fun us5 hu5=>⟨_,(.same _),_,_,_,_,_,c_spec_l1Int v2.2 [40,60,90,190] (by exact ⟨by assumption,by simp,by simp⟩),(FzAs.same _),(.same _),trivial,(Int×Cur),(spec_l1Int v2.2 [40,60,90,190]),(fun g=>(Cur.cells false) g.2),(fun g=>.one (.v (.int .i64 g.1))),rfl,rfl,fun v3 hvv3=>litE (m:=6) rfl (have hz6:=okE hvv3 (ok_l1Int (by assumption));litE (m:=6) rfl (have hg:=bindE hvv3 hg;.inr ⟨0,[],fun us7 hu7=>⟨_,(.same _),_,_,_,_,_,c_spec_l1Below v3.2 4 (by assumption),(FzAs.same _),(.same _),trivial,(Int×Cur),(spec_l1Below v3.2 4),(fun g=>(Cur.cells false) g.2),(fun g=>.one (.v (.int .i64 g.1))),rfl,rfl,fun v4 hvv4=>litE (m:=7) rfl (have hz8:=okE hvv4 (ok_l1Below (by assumption));have hlB:=l1Below_at hvv4;litE (m:=7) rfl (have hg:=bindE hvv4 hg;.inr ⟨0,[],fun us9 hu9=>⟨_,(.same _),_,_,_,_,_,c_spec_l1Below v4.2 3 (by assumption),(FzAs.same _),(.same _),trivial,(Int×Cur),(spec_l1Below v4.2 3),(fun g=>(Cur.cells false) g.2),(fun g=>.one (.v (.int .i64 g.1))),rfl,rfl,fun v5 hvv5=>litE (m:=8) rfl (have hz10:=okE hvv5 (ok_l1Below (by assumption));have hlB:=l1Below_at hvv5;litE (m:=8) rfl (have hg:=bindE hvv5 hg;.inr ⟨0,[],fun us11 hu11=>⟨_,(.same _),_,_,_,_,_,c_spec_l1Below v5.2 3 (by assumption),(FzAs.same _),(.same _),trivial,(Int×Cur),(spec_l1Below v5.2 3),(fun g=>(Cur.cells false) g.2),(fun g=>.one (.v (.int .i64 g.1))),rfl,rfl,fun v6 hvv6=>litE (m:=9) rfl (have hz12:=okE hvv6 (ok_l1Below (by assumption));have hlB:=l1Below_at hvv6;litE (m:=9) rfl (have hg:=bindE hvv6 hg;.inr (.inr ⟨0,[],fun us13 hu13=>⟨_,(.same _),_,_,_,_,_,c_spec_l1Int v6.2 [0,1,2,4] (by exact ⟨by assumption,by simp,by simp⟩),(FzAs.same _),(.same _),trivial,(Int×Cur),(spec_l1Int v6.2 [0,1,2,4]),(fun g=>(Cur.cells false) g.2),(fun g=>.one (.v (.int .i64 g.1))),rfl,rfl,fun v7 hvv7=>litE (m:=10) rfl (have hz14:=okE hvv7 (ok_l1Int (by assumption));litE (m:=10) rfl (have hg:=bindE hvv7 hg;.inr ⟨0,[],fun us15 hu15=>⟨_,(.same _),_,_,_,_,_,c_spec_l5Draw v7.2 3 (by exact ⟨by assumption,by simp,by simp⟩),(FzAs.same _),(.same _),trivial,(Pol×Cur),(spec_l5Draw v7.2 3),(fun g=>(Cur.cells false) g.2),(fun g=>.agg (Pol.opn true g.1)),rfl,rfl,fun v8 hvv8=>litE (m:=11) rfl (have hz16:=okE hvv8 (ok_l5DrawX (by assumption));litE (m:=11) rfl (have hg:=bindE hvv8 hg;leafB hown hg))⟩⟩))⟩⟩)))⟩⟩))⟩⟩))⟩⟩))⟩⟩)))⟩⟩)))⟩⟩)))
theorem ok_l13Draw {c:Cur} (h:CurOk c):CurOk (spec_l13Draw c).2:=by
 show CurR (spec_l13Draw c)
 unfold spec_l13Draw
 repeat' (with_reducible (first | assumption | refine bindC ?_ (fun v hv=>?_) | refine pairC ?_ | refine ok_l1Below ?_ | refine ok_l1Int ?_ | refine ok_l5Draw ?_))
def spec_l1Once (p0:Cur) (p1:Int):(Bool×Cur) :=
 (bindV (spec_l1Below p0 p1) fun (v1:(Int×Cur))=>((v1.1==0),v1.2))
theorem c_spec_l1Once (p0:Cur) (p1:Int) (hs:CurOk p0):FnOk prog 30 [.tup [.one (.b ((Cur.cells false) p0))],.one (.v (.int .i64 p1))] ⟨.one (.v (.bool (spec_l1Once p0 p1).1)),[.one (.b ((Cur.cells false) (spec_l1Once p0 p1).2))],[],false⟩:=by
 refine FnOk.introV (E:=env) envOk wide func30 rfl (by kernel_rfl) rfl ?_
 have hg:=spec_l1Once.eq_1 p0 p1
 have hown:(false=false→∀g:(Bool×Cur),AV.Own (AV.one (.v (.bool g.1))))∧(fun g:(Bool×Cur)=>(Cur.cells false) g.2)=_∧(fun g:(Bool×Cur)=>AV.one (.v (.bool g.1)))=_:=⟨fun _ g=>.v _,rfl,rfl⟩
 exact seqE (seqE (.inr ⟨0,[],fun us1 hu1=>⟨_,(.same _),_,_,_,_,_,c_spec_l1Below p0 p1 (by assumption),(FzAs.same _),(.same _),trivial,(Int×Cur),(spec_l1Below p0 p1),(fun g=>(Cur.cells false) g.2),(fun g=>.one (.v (.int .i64 g.1))),rfl,rfl,fun v1 hvv1=>litE (m:=3) rfl (have hz2:=okE hvv1 (ok_l1Below (by assumption));have hlB:=l1Below_at hvv1;litE (m:=3) rfl (have hg:=bindE hvv1 hg;leafB hown hg))⟩⟩))
theorem ok_l1Once {c:Cur} {n:Int} (h:CurOk c):CurOk (spec_l1Once c n).2:=by
 show CurR (spec_l1Once c n)
 unfold spec_l1Once
 repeat' (with_reducible (first | assumption | refine bindC ?_ (fun v hv=>?_) | refine pairC ?_ | refine ok_l1Below ?_))
def spec_l2One (p0:Cur) (p1:ByteArray):(Attr×Cur) :=
 (bindV (spec_l1Once p0 2) fun (v1:(Bool×Cur))=>(bif v1.1 then (bindV (spec_l1Int v1.2 [0,1,5,200,500]) fun (v2:(Int×Cur))=>((Attr.mk p1 true v2.1 (ByteArray.mk #[])),v2.2)) else (bindV (spec_l1Str v1.2 [(ByteArray.mk #[97]),(ByteArray.mk #[98]),(ByteArray.mk #[111,107]),(ByteArray.mk #[])]) fun (v3:(ByteArray×Cur))=>((Attr.mk p1 false 0 v3.1),v3.2))))
theorem c_spec_l2One (p0:Cur) (p1:ByteArray) (hs:CurOk p0):FnOk prog 59 [.tup [.one (.b ((Cur.cells false) p0))],.one (.v (.string p1))] ⟨.agg (Attr.cells (spec_l2One p0 p1).1),[.one (.b ((Cur.cells false) (spec_l2One p0 p1).2))],[],false⟩:=by
 refine FnOk.introV (E:=env) envOk wide func59 rfl (by kernel_rfl) rfl ?_
 have hg:=spec_l2One.eq_1 p0 p1
 have hown:(false=false→∀g:(Attr×Cur),AV.Own (AV.agg (Attr.cells g.1)))∧(fun g:(Attr×Cur)=>(Cur.cells false) g.2)=_∧(fun g:(Attr×Cur)=>AV.agg (Attr.cells g.1))=_:=⟨fun _ g=>own_Attr _,rfl,rfl⟩
 exact seqE (litE (m:=2) rfl (seqE (seqE (.inr ⟨0,[],fun us1 hu1=>⟨_,(.same _),_,_,_,_,_,c_spec_l1Once p0 2 (by assumption),(FzAs.same _),(.same _),trivial,(Bool×Cur),(spec_l1Once p0 2),(fun g=>(Cur.cells false) g.2),(fun g=>.one (.v (.bool g.1))),rfl,rfl,fun v1 hvv1=>litE (m:=4) rfl (have hz2:=okE hvv1 (ok_l1Once (by assumption));litE (m:=4) rfl (have hg:=bindE hvv1 hg;brE hg (fun hg h3=>seqE (.inr (.inr ⟨0,[],fun us4 hu4=>⟨_,(.same _),_,_,_,_,_,c_spec_l1Int v1.2 [0,1,5,200,500] (by exact ⟨by assumption,by simp,by simp⟩),(FzAs.same _),(.same _),trivial,(Int×Cur),(spec_l1Int v1.2 [0,1,5,200,500]),(fun g=>(Cur.cells false) g.2),(fun g=>.one (.v (.int .i64 g.1))),rfl,rfl,fun v2 hvv2=>litE (m:=5) rfl (have hz5:=okE hvv2 (ok_l1Int (by assumption));litE (m:=5) rfl (have hg:=bindE hvv2 hg;leafB hown hg))⟩⟩))) (fun hg h3=>seqE (.inr (.inr ⟨0,[],fun us6 hu6=>⟨_,(.same _),_,_,_,_,_,c_spec_l1Str v1.2 [(ByteArray.mk #[97]),(ByteArray.mk #[98]),(ByteArray.mk #[111,107]),(ByteArray.mk #[])] (by exact ⟨by assumption,by simp,by simp⟩),(FzAs.same _),(.same _),trivial,(ByteArray×Cur),(spec_l1Str v1.2 [(ByteArray.mk #[97]),(ByteArray.mk #[98]),(ByteArray.mk #[111,107]),(ByteArray.mk #[])]),(fun g=>(Cur.cells false) g.2),(fun g=>.one (.v (.string g.1))),rfl,rfl,fun v3 hvv3=>litE (m:=5) rfl (have hz7:=okE hvv3 (ok_l1Str (by assumption));litE (m:=5) rfl (have hg:=bindE hvv3 hg;leafB hown hg))⟩⟩)))))⟩⟩))))
theorem ok_l2One {c:Cur} {k:ByteArray} (h:CurOk c):CurOk (spec_l2One c k).2:=by
 show CurR (spec_l2One c k)
 unfold spec_l2One
 repeat' (with_reducible (first | assumption | refine bindC ?_ (fun v hv=>?_) | refine bifC ?_ ?_ | refine pairC ?_ | refine ok_l1Once ?_ | refine ok_l1Int ?_ | refine ok_l1Str ?_))
def spec_l2Draw_b1 (i1:Nat) (s1:(List Int)×Int×Int×(List Attr)):Step ((List Int)×Int×Int×(List Attr)) ((List Attr)×Cur) :=
 (bindV (spec_l1Once (Cur.mk s1.1 s1.2.1 s1.2.2.1) 4) fun (v1:(Bool×Cur))=>(bif v1.1 then (bindV (spec_l2One v1.2 ([(ByteArray.mk #[99,111,100,101]),(ByteArray.mk #[102,97,105,108,101,100]),(ByteArray.mk #[107]),(ByteArray.mk #[112,97,116,104]),(ByteArray.mk #[117,115,101,114])][i1]?.getD default)) fun (v2:(Attr×Cur))=>(.next (v2.2.f_b,v2.2.f_i,v2.2.f_h,(s1.2.2.2++[v2.1])))) else (.next (v1.2.f_b,v1.2.f_i,v1.2.f_h,s1.2.2.2))))
def spec_l2Draw (p0:Cur):((List Attr)×Cur) :=
 (Fin.get (fun s1=>(s1.2.2.2,(Cur.mk s1.1 s1.2.1 s1.2.2.1))) (loopC spec_l2Draw_b1 0 (p0.f_b,p0.f_i,p0.f_h,([]:List Attr)) ((5:Int)).toNat))
theorem c_spec_l2Draw (p0:Cur) (hs:CurOk p0):FnOk prog 43 [.tup [.one (.b ((Cur.cells false) p0))]] ⟨.one (.s true 4 (List.map Attr.cells (spec_l2Draw p0).1)),[.one (.b ((Cur.cells false) (spec_l2Draw p0).2))],[],false⟩:=by
 refine FnOk.introV (E:=env) envOk wide func43 rfl (by kernel_rfl) rfl ?_
 have hg:=spec_l2Draw.eq_1 p0
 have hown:(false=false→∀g:((List Attr)×Cur),AV.Own (AV.one (.s true 4 (List.map Attr.cells g.1))))∧(fun g:((List Attr)×Cur)=>(Cur.cells false) g.2)=_∧(fun g:((List Attr)×Cur)=>AV.one (.s true 4 (List.map Attr.cells g.1)))=_:=⟨fun _ g=>ownSl own_Attr _,rfl,rfl⟩
 refine seqE (seqE (.inl (litE (m:=2) rfl (seqE (seqE (.inl (litE (m:=3) rfl (lenE (k:=5) (by simp) (fun hN1=>loopCI (fun (i:Nat) (s:List Int×Int×Int×List Attr)=>CurOk (Cur.mk s.1 s.2.1 s.2.2.1)∧s.2.2.2.length≤i) hg (⟨hs,Nat.zero_le _⟩) [0,7,8] (fun x1=>[(3,.one (.n 2 [] 1 0 (x1.s.2.2.2).length)),(9,.one (.v (.int .i64 ((x1.i:Nat):Int))))]) (fun x1=>[.new ⟨3,true,[[.s false 1 (List.map cU8 x1.s.1),.v (.int .i64 x1.s.2.1),.v (.int .i64 x1.s.2.2.1)]],0⟩,.dead,.new ⟨4,false,List.map Attr.cells x1.s.2.2.2,0⟩,.keep 3]) [some 0,none,some 2,some 3] (⟨rfl,⟨⟨rfl,rfl,rfl,rfl,by (rfl)⟩,rfl,⟨rfl,rfl,rfl,rfl⟩,⟨rfl,rfl,rfl,rfl,by (rfl)⟩,rfl,trivial⟩,(by repeat' constructor),⟨⟨rfl,rfl,rfl,rfl⟩,trivial⟩⟩) (fun x1=>?_))))))))))
 have hI1:=x1.hI
 try dsimp only at hI1
 refine seqE (seqE (tstC (fun hi1=>have hb1:=(x1.bdy hi1).trans (spec_l2Draw_b1.eq_1 ..);have hw1:=wrapC hi1;seqE (seqE (andE (by ((simp;omega))) (rowGet (enc:=cStr) (i:=x1.i) (l:=[(ByteArray.mk #[99,111,100,101]),(ByteArray.mk #[102,97,105,108,101,100]),(ByteArray.mk #[107]),(ByteArray.mk #[112,97,116,104]),(ByteArray.mk #[117,115,101,114])]) (by exact Nat.zero_add _) (fun hq2=>seqE (.inr ⟨0,[],fun us3 hu3=>⟨_,(.same _),_,_,_,_,_,c_spec_l1Once (Cur.mk x1.s.1 x1.s.2.1 x1.s.2.2.1) 4 (by exact hI1.1),(FzAs.same _),(.same _),trivial,(Bool×Cur),(spec_l1Once (Cur.mk x1.s.1 x1.s.2.1 x1.s.2.2.1) 4),(fun g=>(Cur.cells false) g.2),(fun g=>.one (.v (.bool g.1))),rfl,rfl,fun v1 hvv1=>litE (m:=5) rfl (have hz4:=okE hvv1 (ok_l1Once (by exact hI1.1));litE (m:=5) rfl (have hb1:=bindE hvv1 hb1;brE hb1 (fun hb1 h5=>?_) (fun hb1 h5=>x1.goE hi1 hb1 (by refine ⟨by assumption,?_⟩;(have q1:=hI1.2;(try simp only [List.length_map,List.length_append,List.length_cons,List.length_nil,List.length_take,List.length_drop]);omega)) [some 0,none,some 2,some 3] ⟨rfl,⟨⟨rfl,rfl,rfl,rfl,by (rfl)⟩,(eqInt hw1),⟨rfl,rfl,rfl,rfl⟩,⟨rfl,rfl,rfl,rfl,by (rfl)⟩,rfl,trivial⟩,(by repeat' constructor),⟨⟨rfl,rfl,rfl,rfl⟩,trivial⟩⟩)))⟩⟩)))))) (fun hi1=>have hg:=finE hg (x1.fin hi1);seqE (leafB hown hg))))
 refine .inr ⟨0,[],fun us6 hu6=>⟨_,(.same _),_,_,_,_,_,c_spec_l2One v1.2 ([(ByteArray.mk #[99,111,100,101]),(ByteArray.mk #[102,97,105,108,101,100]),(ByteArray.mk #[107]),(ByteArray.mk #[112,97,116,104]),(ByteArray.mk #[117,115,101,114])][x1.i]?.getD default) (by assumption),(FzAs.same _),(.same _),trivial,(Attr×Cur),(spec_l2One v1.2 ([(ByteArray.mk #[99,111,100,101]),(ByteArray.mk #[102,97,105,108,101,100]),(ByteArray.mk #[107]),(ByteArray.mk #[112,97,116,104]),(ByteArray.mk #[117,115,101,114])][x1.i]?.getD default)),(fun g=>(Cur.cells false) g.2),(fun g=>.agg (Attr.cells g.1)),rfl,rfl,fun v2 hvv2=>litE (m:=6) rfl (have hz7:=okE hvv2 (ok_l2One (by assumption));litE (m:=6) rfl (have hb1:=bindE hvv2 hb1;.inl (litE (m:=6) rfl (.inl (rowsE (Y:=List.map Attr.cells (x1.s.2.2.2++[v2.1])) (by simp [subR0,subR1,-List.map_take,-List.map_drop,-List.drop_one,take_map',drop_map',fz_Attr,fl_Attr,fzMap fz_Attr,flMap fl_Attr];rfl) (appB (b:=48) (hs:=by have q1:=hI1.2;have q2:=hi1;refine ⟨?_,?_⟩;(show List.length _*48≤_);(try simp only [List.length_map,List.length_append,List.length_cons,List.length_nil,List.length_take,List.length_drop]);omega;(try simp only [List.length_map,List.length_append,List.length_cons,List.length_nil,List.length_take,List.length_drop]);omega) ?_))))))⟩⟩
 exact litE (m:=7) rfl (x1.goE hi1 hb1 (by refine ⟨by assumption,?_⟩;(have q1:=hI1.2;(try simp only [List.length_map,List.length_append,List.length_cons,List.length_nil,List.length_take,List.length_drop]);omega)) [some 0,none,some 7,some 3] ⟨rfl,⟨⟨rfl,rfl,rfl,rfl,by ((simp [LstSt.init,LstSt.step,LstInv.init,CntSt.init,CntSt.step,CntInv.init,WhlSt.init,WhlSt.step];done))⟩,(eqInt hw1),⟨rfl,rfl,rfl,rfl⟩,⟨rfl,rfl,rfl,rfl,by (rfl)⟩,rfl,trivial⟩,(by repeat' constructor),⟨⟨rfl,rfl,rfl,rfl⟩,trivial⟩⟩)
theorem l2Draw_run {c:Cur} (h:CurOk c):∃v,loopC spec_l2Draw_b1 0 (c.f_b,c.f_i,c.f_h,([]:List Attr)) 5=.fin v∧(CurOk (Cur.mk v.1 v.2.1 v.2.2.1)∧v.2.2.2.length≤0+5) :=
 loopC_run (P:=fun i (s:List Int×Int×Int×List Attr)=>CurOk (Cur.mk s.1 s.2.1 s.2.2.1)∧s.2.2.2.length≤i) (fun i s hs=>by
  unfold spec_l2Draw_b1
  simp only [bindV]
  cases (spec_l1Once (Cur.mk s.1 s.2.1 s.2.2.1) 4).1
  · exact ⟨_,rfl,ok_l1Once (n:=4) hs.1,by have:=hs.2;show s.2.2.2.length≤i+1;omega⟩
  · exact ⟨_,rfl,ok_l2One (ok_l1Once hs.1),by have:=hs.2;simp only [List.length_append,List.length_cons,List.length_nil];omega⟩) 5 0 _ ⟨h,Nat.zero_le _⟩
theorem l2Draw_ok {c:Cur} (h:CurOk c):CurOk (spec_l2Draw c).2∧(spec_l2Draw c).1.length≤5:=by
 obtain ⟨v,e,h1,h2⟩:=l2Draw_run h
 unfold spec_l2Draw
 rw [show ((5:Int)).toNat=5 from rfl,e]
 exact ⟨h1,h2⟩
theorem ok_l2Draw {c:Cur} (h:CurOk c):CurOk (spec_l2Draw c).2:=(l2Draw_ok h).1
theorem l2Draw_at {c:Cur} {v:List Attr×Cur} (e:v=spec_l2Draw c) (h:CurOk c):v.1.length≤5:=by rw [e];exact (l2Draw_ok h).2
def spec_l3Draw (p0:Cur):(Span×Cur) :=
 (bindV (spec_l1Below p0 5) fun (v1:(Int×Cur))=>(bindV (spec_l1Below v1.2 9) fun (v2:(Int×Cur))=>(bindV (spec_l1Below v2.2 9) fun (v3:(Int×Cur))=>(bindV (spec_l1Once v3.2 4) fun (v4:(Bool×Cur))=>(bindV (spec_l2Draw v4.2) fun (v5:((List Attr)×Cur))=>(bindV (spec_l1Int v5.2 [0,1,5,20]) fun (v6:(Int×Cur))=>((Span.mk (IntKind.i64.wrap (1+v1.1)) (IntKind.i64.wrap (1+v2.1)) v3.1 (IntKind.i64.wrap (v3.1+v6.1)) v4.1 v5.1),v6.2)))))))
theorem c_spec_l3Draw (p0:Cur) (hs:CurOk p0):FnOk prog 31 [.tup [.one (.b ((Cur.cells false) p0))]] ⟨.agg ((Span.cells true) (spec_l3Draw p0).1),[.one (.b ((Cur.cells false) (spec_l3Draw p0).2))],[],false⟩:=by
 refine FnOk.introV (E:=env) envOk wide func31 rfl (by kernel_rfl) rfl ?_
 have hg:=spec_l3Draw.eq_1 p0
 have hown:(false=false→∀g:(Span×Cur),AV.Own (AV.agg ((Span.cells true) g.1)))∧(fun g:(Span×Cur)=>(Cur.cells false) g.2)=_∧(fun g:(Span×Cur)=>AV.agg ((Span.cells true) g.1))=_:=⟨fun _ g=>own_Span _,rfl,rfl⟩
 exact seqE (litE (m:=2) rfl (seqE (.inr ⟨0,[],fun us1 hu1=>⟨_,(.same _),_,_,_,_,_,c_spec_l1Below p0 5 (by assumption),(FzAs.same _),(.same _),trivial,(Int×Cur),(spec_l1Below p0 5),(fun g=>(Cur.cells false) g.2),(fun g=>.one (.v (.int .i64 g.1))),rfl,rfl,fun v1 hvv1=>litE (m:=4) rfl (have hz2:=okE hvv1 (ok_l1Below (by assumption));have hlB:=l1Below_at hvv1;litE (m:=4) rfl (have hg:=bindE hvv1 hg;.inr ⟨0,[],fun us3 hu3=>⟨_,(.same _),_,_,_,_,_,c_spec_l1Below v1.2 9 (by assumption),(FzAs.same _),(.same _),trivial,(Int×Cur),(spec_l1Below v1.2 9),(fun g=>(Cur.cells false) g.2),(fun g=>.one (.v (.int .i64 g.1))),rfl,rfl,fun v2 hvv2=>litE (m:=5) rfl (have hz4:=okE hvv2 (ok_l1Below (by assumption));have hlB:=l1Below_at hvv2;litE (m:=5) rfl (have hg:=bindE hvv2 hg;.inr ⟨0,[],fun us5 hu5=>⟨_,(.same _),_,_,_,_,_,c_spec_l1Below v2.2 9 (by assumption),(FzAs.same _),(.same _),trivial,(Int×Cur),(spec_l1Below v2.2 9),(fun g=>(Cur.cells false) g.2),(fun g=>.one (.v (.int .i64 g.1))),rfl,rfl,fun v3 hvv3=>litE (m:=6) rfl (have hz6:=okE hvv3 (ok_l1Below (by assumption));have hlB:=l1Below_at hvv3;litE (m:=6) rfl (have hg:=bindE hvv3 hg;.inr ⟨0,[],fun us7 hu7=>⟨_,(.same _),_,_,_,_,_,c_spec_l1Once v3.2 4 (by assumption),(FzAs.same _),(.same _),trivial,(Bool×Cur),(spec_l1Once v3.2 4),(fun g=>(Cur.cells false) g.2),(fun g=>.one (.v (.bool g.1))),rfl,rfl,fun v4 hvv4=>litE (m:=7) rfl (have hz8:=okE hvv4 (ok_l1Once (by assumption));litE (m:=7) rfl (have hg:=bindE hvv4 hg;.inr ⟨0,[],fun us9 hu9=>⟨_,(.same _),_,_,_,_,_,c_spec_l2Draw v4.2 (by assumption),(FzAs.same _),(.same _),trivial,((List Attr)×Cur),(spec_l2Draw v4.2),(fun g=>(Cur.cells false) g.2),(fun g=>.one (.s true 4 (List.map Attr.cells g.1))),rfl,rfl,fun v5 hvv5=>litE (m:=8) rfl (have hz10:=okE hvv5 (ok_l2Draw (by assumption));have hlA:=l2Draw_at hvv5 (by assumption);litE (m:=8) rfl (have hg:=bindE hvv5 hg;litE (m:=9) rfl (seqE (.inr (.inr ⟨(.q 0 (.q 2 (.z 1 (.m 3 [1] (.m 4 [1] (.m 5 [] (.m 6 [] (.m 7 [] .leaf)))))))),by kernel_rfl,.inr (And.intro (And.intro (⟨rfl,rfl⟩) trivial) (.inr ⟨0,[],fun us11 hu11=>⟨_,(.same _),_,_,_,_,_,c_spec_l1Int v5.2 [0,1,5,20] (by exact ⟨by assumption,by simp,by simp⟩),(FzAs.same _),(.same _),trivial,(Int×Cur),(spec_l1Int v5.2 [0,1,5,20]),(fun g=>(Cur.cells false) g.2),(fun g=>.one (.v (.int .i64 g.1))),rfl,rfl,fun v6 hvv6=>litE (m:=11) rfl (have hz12:=okE hvv6 (ok_l1Int (by assumption));litE (m:=11) rfl (have hg:=bindE hvv6 hg;And.intro (And.intro (⟨rfl,rfl⟩) trivial) (And.intro trivial (And.intro trivial (And.intro trivial (seqE (leafB hown hg)))))))⟩⟩))⟩)))))⟩⟩))⟩⟩))⟩⟩))⟩⟩))⟩⟩)))
theorem ok_l3Draw {c:Cur} (h:CurOk c):CurOk (spec_l3Draw c).2:=by
 show CurR (spec_l3Draw c)
 unfold spec_l3Draw
 repeat' (with_reducible (first | assumption | refine bindC ?_ (fun v hv=>?_) | refine pairC ?_ | refine ok_l1Below ?_ | refine ok_l1Once ?_ | refine ok_l1Int ?_ | refine ok_l2Draw ?_))
def spec_l1Odd (p0:Cur):(Int×Cur) :=
 (bindV (spec_l1Int p0 [(-1),0,1,2,255,256,65535,2147483647,2147483648,4294967295,4294967296,(-2147483648),9223372036854775807,(-9223372036854775808)]) fun (v1:(Int×Cur))=>(v1.1,v1.2))
theorem c_spec_l1Odd (p0:Cur) (hs:CurOk p0):FnOk prog 60 [.tup [.one (.b ((Cur.cells false) p0))]] ⟨.one (.v (.int .i64 (spec_l1Odd p0).1)),[.one (.b ((Cur.cells false) (spec_l1Odd p0).2))],[],false⟩:=by
 refine FnOk.introV (E:=env) envOk wide func60 rfl (by kernel_rfl) rfl ?_
 have hg:=spec_l1Odd.eq_1 p0
 have hown:(false=false→∀g:(Int×Cur),AV.Own (AV.one (.v (.int .i64 g.1))))∧(fun g:(Int×Cur)=>(Cur.cells false) g.2)=_∧(fun g:(Int×Cur)=>AV.one (.v (.int .i64 g.1)))=_:=⟨fun _ g=>.v _,rfl,rfl⟩
 exact seqE (seqE (.inr (.inr ⟨0,[],fun us1 hu1=>⟨_,(.same _),_,_,_,_,_,c_spec_l1Int p0 [(-1),0,1,2,255,256,65535,2147483647,2147483648,4294967295,4294967296,(-2147483648),9223372036854775807,(-9223372036854775808)] (by exact ⟨by assumption,by simp,by simp⟩),(FzAs.same _),(.same _),trivial,(Int×Cur),(spec_l1Int p0 [(-1),0,1,2,255,256,65535,2147483647,2147483648,4294967295,4294967296,(-2147483648),9223372036854775807,(-9223372036854775808)]),(fun g=>(Cur.cells false) g.2),(fun g=>.one (.v (.int .i64 g.1))),rfl,rfl,fun v1 hvv1=>litE (m:=3) rfl (have hz2:=okE hvv1 (ok_l1Int (by assumption));litE (m:=3) rfl (have hg:=bindE hvv1 hg;leafB hown hg))⟩⟩)))
theorem ok_l1Odd {c:Cur} (h:CurOk c):CurOk (spec_l1Odd c).2:=by
 show CurR (spec_l1Odd c)
 unfold spec_l1Odd
 repeat' (with_reducible (first | assumption | refine bindC ?_ (fun v hv=>?_) | refine pairC ?_ | refine ok_l1Int ?_))
def spec_l1Raw (p0:Cur):(Int×Cur) :=
 (bindV (spec_l1Once p0 2) fun (v1:(Bool×Cur))=>(bif v1.1 then (bindV (spec_l1Odd v1.2) fun (v2:(Int×Cur))=>(v2.1,v2.2)) else (bindV (spec_l1Int v1.2 [(-2147483648),(-3),(-1),0,1,3,7,65536,2147483647,2147483648]) fun (v3:(Int×Cur))=>(v3.1,v3.2))))
theorem c_spec_l1Raw (p0:Cur) (hs:CurOk p0):FnOk prog 44 [.tup [.one (.b ((Cur.cells false) p0))]] ⟨.one (.v (.int .i64 (spec_l1Raw p0).1)),[.one (.b ((Cur.cells false) (spec_l1Raw p0).2))],[],false⟩:=by
 refine FnOk.introV (E:=env) envOk wide func44 rfl (by kernel_rfl) rfl ?_
 have hg:=spec_l1Raw.eq_1 p0
 have hown:(false=false→∀g:(Int×Cur),AV.Own (AV.one (.v (.int .i64 g.1))))∧(fun g:(Int×Cur)=>(Cur.cells false) g.2)=_∧(fun g:(Int×Cur)=>AV.one (.v (.int .i64 g.1)))=_:=⟨fun _ g=>.v _,rfl,rfl⟩
 exact seqE (seqE (seqE (.inr ⟨0,[],fun us1 hu1=>⟨_,(.same _),_,_,_,_,_,c_spec_l1Once p0 2 (by assumption),(FzAs.same _),(.same _),trivial,(Bool×Cur),(spec_l1Once p0 2),(fun g=>(Cur.cells false) g.2),(fun g=>.one (.v (.bool g.1))),rfl,rfl,fun v1 hvv1=>litE (m:=3) rfl (have hz2:=okE hvv1 (ok_l1Once (by assumption));litE (m:=3) rfl (have hg:=bindE hvv1 hg;brE hg (fun hg h3=>seqE (.inr ⟨0,[],fun us4 hu4=>⟨_,(.same _),_,_,_,_,_,c_spec_l1Odd v1.2 (by assumption),(FzAs.same _),(.same _),trivial,(Int×Cur),(spec_l1Odd v1.2),(fun g=>(Cur.cells false) g.2),(fun g=>.one (.v (.int .i64 g.1))),rfl,rfl,fun v2 hvv2=>litE (m:=4) rfl (have hz5:=okE hvv2 (ok_l1Odd (by assumption));litE (m:=4) rfl (have hg:=bindE hvv2 hg;leafB hown hg))⟩⟩)) (fun hg h3=>seqE (.inr (.inr ⟨0,[],fun us6 hu6=>⟨_,(.same _),_,_,_,_,_,c_spec_l1Int v1.2 [(-2147483648),(-3),(-1),0,1,3,7,65536,2147483647,2147483648] (by exact ⟨by assumption,by simp,by simp⟩),(FzAs.same _),(.same _),trivial,(Int×Cur),(spec_l1Int v1.2 [(-2147483648),(-3),(-1),0,1,3,7,65536,2147483647,2147483648]),(fun g=>(Cur.cells false) g.2),(fun g=>.one (.v (.int .i64 g.1))),rfl,rfl,fun v3 hvv3=>litE (m:=4) rfl (have hz7:=okE hvv3 (ok_l1Int (by assumption));litE (m:=4) rfl (have hg:=bindE hvv3 hg;leafB hown hg))⟩⟩)))))⟩⟩)))
theorem ok_l1Raw {c:Cur} (h:CurOk c):CurOk (spec_l1Raw c).2:=by
 show CurR (spec_l1Raw c)
 unfold spec_l1Raw
 repeat' (with_reducible (first | assumption | refine bindC ?_ (fun v hv=>?_) | refine bifC ?_ ?_ | refine pairC ?_ | refine ok_l1Once ?_ | refine ok_l1Int ?_ | refine ok_l1Odd ?_))
def spec_l1AnyName (p0:Cur):(ByteArray×Cur) :=
 (bindV (spec_l1Once p0 2) fun (v1:(Bool×Cur))=>(bif v1.1 then (bindV (spec_l1Names v1.2) fun (v2:(ByteArray×Cur))=>(v2.1,v2.2)) else (bindV (spec_l1Str v1.2 [(ByteArray.mk #[]),(ByteArray.mk #[75]),(ByteArray.mk #[110,105,110,101,99,104,97,114,115]),(ByteArray.mk #[101,105,103,104,116,97,98,99]),(ByteArray.mk #[97,32,98]),(ByteArray.mk #[97,49]),(ByteArray.mk #[102,97,105,108,101,100]),(ByteArray.mk #[102,97,105,108,101,100,120])]) fun (v3:(ByteArray×Cur))=>(v3.1,v3.2))))
theorem c_spec_l1AnyName (p0:Cur) (hs:CurOk p0):FnOk prog 61 [.tup [.one (.b ((Cur.cells false) p0))]] ⟨.one (.v (.string (spec_l1AnyName p0).1)),[.one (.b ((Cur.cells false) (spec_l1AnyName p0).2))],[],false⟩:=by
 refine FnOk.introV (E:=env) envOk wide func61 rfl (by kernel_rfl) rfl ?_
 have hg:=spec_l1AnyName.eq_1 p0
 have hown:(false=false→∀g:(ByteArray×Cur),AV.Own (AV.one (.v (.string g.1))))∧(fun g:(ByteArray×Cur)=>(Cur.cells false) g.2)=_∧(fun g:(ByteArray×Cur)=>AV.one (.v (.string g.1)))=_:=⟨fun _ g=>.v _,rfl,rfl⟩
 exact seqE (seqE (seqE (.inr ⟨0,[],fun us1 hu1=>⟨_,(.same _),_,_,_,_,_,c_spec_l1Once p0 2 (by assumption),(FzAs.same _),(.same _),trivial,(Bool×Cur),(spec_l1Once p0 2),(fun g=>(Cur.cells false) g.2),(fun g=>.one (.v (.bool g.1))),rfl,rfl,fun v1 hvv1=>litE (m:=3) rfl (have hz2:=okE hvv1 (ok_l1Once (by assumption));litE (m:=3) rfl (have hg:=bindE hvv1 hg;brE hg (fun hg h3=>seqE (.inr ⟨0,[],fun us4 hu4=>⟨_,(.same _),_,_,_,_,_,c_spec_l1Names v1.2 (by assumption),(FzAs.same _),(.same _),trivial,(ByteArray×Cur),(spec_l1Names v1.2),(fun g=>(Cur.cells false) g.2),(fun g=>.one (.v (.string g.1))),rfl,rfl,fun v2 hvv2=>litE (m:=4) rfl (have hz5:=okE hvv2 (ok_l1Names (by assumption));litE (m:=4) rfl (have hg:=bindE hvv2 hg;leafB hown hg))⟩⟩)) (fun hg h3=>seqE (.inr (.inr ⟨0,[],fun us6 hu6=>⟨_,(.same _),_,_,_,_,_,c_spec_l1Str v1.2 [(ByteArray.mk #[]),(ByteArray.mk #[75]),(ByteArray.mk #[110,105,110,101,99,104,97,114,115]),(ByteArray.mk #[101,105,103,104,116,97,98,99]),(ByteArray.mk #[97,32,98]),(ByteArray.mk #[97,49]),(ByteArray.mk #[102,97,105,108,101,100]),(ByteArray.mk #[102,97,105,108,101,100,120])] (by exact ⟨by assumption,by simp,by simp⟩),(FzAs.same _),(.same _),trivial,(ByteArray×Cur),(spec_l1Str v1.2 [(ByteArray.mk #[]),(ByteArray.mk #[75]),(ByteArray.mk #[110,105,110,101,99,104,97,114,115]),(ByteArray.mk #[101,105,103,104,116,97,98,99]),(ByteArray.mk #[97,32,98]),(ByteArray.mk #[97,49]),(ByteArray.mk #[102,97,105,108,101,100]),(ByteArray.mk #[102,97,105,108,101,100,120])]),(fun g=>(Cur.cells false) g.2),(fun g=>.one (.v (.string g.1))),rfl,rfl,fun v3 hvv3=>litE (m:=4) rfl (have hz7:=okE hvv3 (ok_l1Str (by assumption));litE (m:=4) rfl (have hg:=bindE hvv3 hg;leafB hown hg))⟩⟩)))))⟩⟩)))
theorem ok_l1AnyName {c:Cur} (h:CurOk c):CurOk (spec_l1AnyName c).2:=by
 show CurR (spec_l1AnyName c)
 unfold spec_l1AnyName
 repeat' (with_reducible (first | assumption | refine bindC ?_ (fun v hv=>?_) | refine bifC ?_ ?_ | refine pairC ?_ | refine ok_l1Once ?_ | refine ok_l1Str ?_ | refine ok_l1Names ?_))
def spec_l1Plain (p0:Cur):(ByteArray×Cur) :=
 (bindV (spec_l1Once p0 6) fun (v1:(Bool×Cur))=>(bif v1.1 then (bindV (spec_l1Str v1.2 [(ByteArray.mk #[]),(ByteArray.mk #[34]),(ByteArray.mk #[127]),(ByteArray.mk #[31]),(ByteArray.mk #[116,119,101,110,116,121,32,98,121,116,101,115,32,97,114,101,32,104,101,114,101]),(ByteArray.mk #[116,119,101,110,116,121,98,121,116,101,115,97,114,101,104,101,114,101,50,48]),(ByteArray.mk #[126,32])]) fun (v2:(ByteArray×Cur))=>(v2.1,v2.2)) else (bindV (spec_l1Str v1.2 [(ByteArray.mk #[97]),(ByteArray.mk #[98]),(ByteArray.mk #[111,107]),(ByteArray.mk #[120,32,121])]) fun (v3:(ByteArray×Cur))=>(v3.1,v3.2))))
theorem c_spec_l1Plain (p0:Cur) (hs:CurOk p0):FnOk prog 62 [.tup [.one (.b ((Cur.cells false) p0))]] ⟨.one (.v (.string (spec_l1Plain p0).1)),[.one (.b ((Cur.cells false) (spec_l1Plain p0).2))],[],false⟩:=by
 refine FnOk.introV (E:=env) envOk wide func62 rfl (by kernel_rfl) rfl ?_
 have hg:=spec_l1Plain.eq_1 p0
 have hown:(false=false→∀g:(ByteArray×Cur),AV.Own (AV.one (.v (.string g.1))))∧(fun g:(ByteArray×Cur)=>(Cur.cells false) g.2)=_∧(fun g:(ByteArray×Cur)=>AV.one (.v (.string g.1)))=_:=⟨fun _ g=>.v _,rfl,rfl⟩
 exact seqE (seqE (seqE (.inr ⟨0,[],fun us1 hu1=>⟨_,(.same _),_,_,_,_,_,c_spec_l1Once p0 6 (by assumption),(FzAs.same _),(.same _),trivial,(Bool×Cur),(spec_l1Once p0 6),(fun g=>(Cur.cells false) g.2),(fun g=>.one (.v (.bool g.1))),rfl,rfl,fun v1 hvv1=>litE (m:=3) rfl (have hz2:=okE hvv1 (ok_l1Once (by assumption));litE (m:=3) rfl (have hg:=bindE hvv1 hg;brE hg (fun hg h3=>seqE (.inr (.inr ⟨0,[],fun us4 hu4=>⟨_,(.same _),_,_,_,_,_,c_spec_l1Str v1.2 [(ByteArray.mk #[]),(ByteArray.mk #[34]),(ByteArray.mk #[127]),(ByteArray.mk #[31]),(ByteArray.mk #[116,119,101,110,116,121,32,98,121,116,101,115,32,97,114,101,32,104,101,114,101]),(ByteArray.mk #[116,119,101,110,116,121,98,121,116,101,115,97,114,101,104,101,114,101,50,48]),(ByteArray.mk #[126,32])] (by exact ⟨by assumption,by simp,by simp⟩),(FzAs.same _),(.same _),trivial,(ByteArray×Cur),(spec_l1Str v1.2 [(ByteArray.mk #[]),(ByteArray.mk #[34]),(ByteArray.mk #[127]),(ByteArray.mk #[31]),(ByteArray.mk #[116,119,101,110,116,121,32,98,121,116,101,115,32,97,114,101,32,104,101,114,101]),(ByteArray.mk #[116,119,101,110,116,121,98,121,116,101,115,97,114,101,104,101,114,101,50,48]),(ByteArray.mk #[126,32])]),(fun g=>(Cur.cells false) g.2),(fun g=>.one (.v (.string g.1))),rfl,rfl,fun v2 hvv2=>litE (m:=4) rfl (have hz5:=okE hvv2 (ok_l1Str (by assumption));litE (m:=4) rfl (have hg:=bindE hvv2 hg;leafB hown hg))⟩⟩))) (fun hg h3=>seqE (.inr (.inr ⟨0,[],fun us6 hu6=>⟨_,(.same _),_,_,_,_,_,c_spec_l1Str v1.2 [(ByteArray.mk #[97]),(ByteArray.mk #[98]),(ByteArray.mk #[111,107]),(ByteArray.mk #[120,32,121])] (by exact ⟨by assumption,by simp,by simp⟩),(FzAs.same _),(.same _),trivial,(ByteArray×Cur),(spec_l1Str v1.2 [(ByteArray.mk #[97]),(ByteArray.mk #[98]),(ByteArray.mk #[111,107]),(ByteArray.mk #[120,32,121])]),(fun g=>(Cur.cells false) g.2),(fun g=>.one (.v (.string g.1))),rfl,rfl,fun v3 hvv3=>litE (m:=4) rfl (have hz7:=okE hvv3 (ok_l1Str (by assumption));litE (m:=4) rfl (have hg:=bindE hvv3 hg;leafB hown hg))⟩⟩)))))⟩⟩)))
theorem ok_l1Plain {c:Cur} (h:CurOk c):CurOk (spec_l1Plain c).2:=by
 show CurR (spec_l1Plain c)
 unfold spec_l1Plain
 repeat' (with_reducible (first | assumption | refine bindC ?_ (fun v hv=>?_) | refine bifC ?_ ?_ | refine pairC ?_ | refine ok_l1Once ?_ | refine ok_l1Str ?_))
def spec_l2Any (p0:Cur):((List Attr)×Cur) :=
 (bindV (spec_l2Draw p0) fun (v1:((List Attr)×Cur))=>(bindV (spec_l1Below v1.2 8) fun (v2:(Int×Cur))=>(bif (v2.1==0) then (bindV (spec_l1AnyName v2.2) fun (v3:(ByteArray×Cur))=>(bindV (spec_l1Once v3.2 2) fun (v4:(Bool×Cur))=>(bindV (spec_l1Raw v4.2) fun (v5:(Int×Cur))=>(bindV (spec_l1Plain v5.2) fun (v6:(ByteArray×Cur))=>((v1.1++[(Attr.mk v3.1 v4.1 v5.1 v6.1)]),v6.2))))) else (bif (v2.1==1) then (bindV (spec_l1Str v2.2 [(ByteArray.mk #[97]),(ByteArray.mk #[122,111,111])]) fun (v7:(ByteArray×Cur))=>(bindV (spec_l2One v7.2 v7.1) fun (v8:(Attr×Cur))=>((v1.1++[v8.1]),v8.2))) else (bif (v2.1==2) then (bindV (spec_l2One v2.2 (ByteArray.mk #[118])) fun (v9:(Attr×Cur))=>(bindV (spec_l2One v9.2 (ByteArray.mk #[119])) fun (v10:(Attr×Cur))=>(bindV (spec_l2One v10.2 (ByteArray.mk #[120])) fun (v11:(Attr×Cur))=>(bindV (spec_l2One v11.2 (ByteArray.mk #[121])) fun (v12:(Attr×Cur))=>((v1.1++[v9.1,v10.1,v11.1,v12.1]),v12.2))))) else (v1.1,v2.2))))))
theorem c_spec_l2Any (p0:Cur) (hs:CurOk p0):FnOk prog 45 [.tup [.one (.b ((Cur.cells false) p0))]] ⟨.one (.s true 4 (List.map Attr.cells (spec_l2Any p0).1)),[.one (.b ((Cur.cells false) (spec_l2Any p0).2))],[],false⟩:=by
 refine FnOk.introV (E:=env) envOk wide func45 rfl (by kernel_rfl) rfl ?_
 have hg:=spec_l2Any.eq_1 p0
 have hown:(false=false→∀g:((List Attr)×Cur),AV.Own (AV.one (.s true 4 (List.map Attr.cells g.1))))∧(fun g:((List Attr)×Cur)=>(Cur.cells false) g.2)=_∧(fun g:((List Attr)×Cur)=>AV.one (.s true 4 (List.map Attr.cells g.1)))=_:=⟨fun _ g=>ownSl own_Attr _,rfl,rfl⟩
 refine seqE (seqE (.inr ⟨0,[],fun us1 hu1=>⟨_,(.same _),_,_,_,_,_,c_spec_l2Draw p0 (by assumption),(FzAs.same _),(.same _),trivial,((List Attr)×Cur),(spec_l2Draw p0),(fun g=>(Cur.cells false) g.2),(fun g=>.one (.s true 4 (List.map Attr.cells g.1))),rfl,rfl,fun v1 hvv1=>litE (m:=3) rfl (have hz2:=okE hvv1 (ok_l2Draw (by assumption));have hlA:=l2Draw_at hvv1 (by assumption);litE (m:=3) rfl (have hg:=bindE hvv1 hg;seqE (seqE (.inr ⟨0,[],fun us3 hu3=>⟨_,(.same _),_,_,_,_,_,c_spec_l1Below v1.2 8 (by assumption),(FzAs.same _),(.same _),trivial,(Int×Cur),(spec_l1Below v1.2 8),(fun g=>(Cur.cells false) g.2),(fun g=>.one (.v (.int .i64 g.1))),rfl,rfl,fun v2 hvv2=>litE (m:=5) rfl (have hz4:=okE hvv2 (ok_l1Below (by assumption));have hlB:=l1Below_at hvv2;litE (m:=5) rfl (have hg:=bindE hvv2 hg;seqE (brQ hg (fun hg h5=>?_) (fun hg h5=>?_))))⟩⟩))))⟩⟩))
 · refine .inr ⟨0,[],fun us6 hu6=>⟨_,(.same _),_,_,_,_,_,c_spec_l1AnyName v2.2 (by assumption),(FzAs.same _),(.same _),trivial,(ByteArray×Cur),(spec_l1AnyName v2.2),(fun g=>(Cur.cells false) g.2),(fun g=>.one (.v (.string g.1))),rfl,rfl,fun v3 hvv3=>litE (m:=6) rfl (have hz7:=okE hvv3 (ok_l1AnyName (by assumption));litE (m:=6) rfl (have hg:=bindE hvv3 hg;.inr ⟨0,[],fun us8 hu8=>⟨_,(.same _),_,_,_,_,_,c_spec_l1Once v3.2 2 (by assumption),(FzAs.same _),(.same _),trivial,(Bool×Cur),(spec_l1Once v3.2 2),(fun g=>(Cur.cells false) g.2),(fun g=>.one (.v (.bool g.1))),rfl,rfl,fun v4 hvv4=>litE (m:=7) rfl (have hz9:=okE hvv4 (ok_l1Once (by assumption));litE (m:=7) rfl (have hg:=bindE hvv4 hg;.inr ⟨0,[],fun us10 hu10=>⟨_,(.same _),_,_,_,_,_,c_spec_l1Raw v4.2 (by assumption),(FzAs.same _),(.same _),trivial,(Int×Cur),(spec_l1Raw v4.2),(fun g=>(Cur.cells false) g.2),(fun g=>.one (.v (.int .i64 g.1))),rfl,rfl,fun v5 hvv5=>litE (m:=8) rfl (have hz11:=okE hvv5 (ok_l1Raw (by assumption));litE (m:=8) rfl (have hg:=bindE hvv5 hg;.inr ⟨0,[],fun us12 hu12=>⟨_,(.same _),_,_,_,_,_,c_spec_l1Plain v5.2 (by assumption),(FzAs.same _),(.same _),trivial,(ByteArray×Cur),(spec_l1Plain v5.2),(fun g=>(Cur.cells false) g.2),(fun g=>.one (.v (.string g.1))),rfl,rfl,fun v6 hvv6=>litE (m:=9) rfl (have hz13:=okE hvv6 (ok_l1Plain (by assumption));litE (m:=9) rfl (have hg:=bindE hvv6 hg;.inr (.inl (rowsE (Y:=List.map Attr.cells (v1.1++[(Attr.mk v3.1 v4.1 v5.1 v6.1)])) (by simp [subR0,subR1,-List.map_take,-List.map_drop,-List.drop_one,take_map',drop_map',fz_Attr,fl_Attr,fzMap fz_Attr,flMap fl_Attr];rfl) (appB (b:=48) (hs:=by have q1:=hlA;refine ⟨?_,?_⟩;(show List.length _*48≤_);(try simp only [List.length_map,List.length_append,List.length_cons,List.length_nil,List.length_take,List.length_drop]);omega;(try simp only [List.length_map,List.length_append,List.length_cons,List.length_nil,List.length_take,List.length_drop]);omega) ?_)))))⟩⟩))⟩⟩))⟩⟩))⟩⟩
   exact litE (m:=9) rfl (seqE (leafB hown hg))
 · refine seqE (brQ hg (fun hg h14=>?_) (fun hg h14=>?_))
   · refine .inr (.inr ⟨0,[],fun us15 hu15=>⟨_,(.same _),_,_,_,_,_,c_spec_l1Str v2.2 [(ByteArray.mk #[97]),(ByteArray.mk #[122,111,111])] (by exact ⟨by assumption,by simp,by simp⟩),(FzAs.same _),(.same _),trivial,(ByteArray×Cur),(spec_l1Str v2.2 [(ByteArray.mk #[97]),(ByteArray.mk #[122,111,111])]),(fun g=>(Cur.cells false) g.2),(fun g=>.one (.v (.string g.1))),rfl,rfl,fun v7 hvv7=>litE (m:=6) rfl (have hz16:=okE hvv7 (ok_l1Str (by assumption));litE (m:=6) rfl (have hg:=bindE hvv7 hg;.inr ⟨0,[],fun us17 hu17=>⟨_,(.same _),_,_,_,_,_,c_spec_l2One v7.2 v7.1 (by assumption),(FzAs.same _),(.same _),trivial,(Attr×Cur),(spec_l2One v7.2 v7.1),(fun g=>(Cur.cells false) g.2),(fun g=>.agg (Attr.cells g.1)),rfl,rfl,fun v8 hvv8=>litE (m:=7) rfl (have hz18:=okE hvv8 (ok_l2One (by assumption));litE (m:=7) rfl (have hg:=bindE hvv8 hg;.inr (.inl (rowsE (Y:=List.map Attr.cells (v1.1++[v8.1])) (by simp [subR0,subR1,-List.map_take,-List.map_drop,-List.drop_one,take_map',drop_map',fz_Attr,fl_Attr,fzMap fz_Attr,flMap fl_Attr];rfl) (appB (b:=48) (hs:=by have q1:=hlA;refine ⟨?_,?_⟩;(show List.length _*48≤_);(try simp only [List.length_map,List.length_append,List.length_cons,List.length_nil,List.length_take,List.length_drop]);omega;(try simp only [List.length_map,List.length_append,List.length_cons,List.length_nil,List.length_take,List.length_drop]);omega) ?_)))))⟩⟩))⟩⟩)
     exact litE (m:=7) rfl (seqE (leafB hown hg))
   · refine seqE (brQ hg (fun hg h19=>.inr ⟨0,[],fun us20 hu20=>⟨_,(.same _),_,_,_,_,_,c_spec_l2One v2.2 (ByteArray.mk #[118]) (by assumption),(FzAs.same _),(.same _),trivial,(Attr×Cur),(spec_l2One v2.2 (ByteArray.mk #[118])),(fun g=>(Cur.cells false) g.2),(fun g=>.agg (Attr.cells g.1)),rfl,rfl,fun v9 hvv9=>litE (m:=6) rfl (have hz21:=okE hvv9 (ok_l2One (by assumption));litE (m:=6) rfl (have hg:=bindE hvv9 hg;.inr ⟨0,[],fun us22 hu22=>⟨_,(.same _),_,_,_,_,_,c_spec_l2One v9.2 (ByteArray.mk #[119]) (by assumption),(FzAs.same _),(.same _),trivial,(Attr×Cur),(spec_l2One v9.2 (ByteArray.mk #[119])),(fun g=>(Cur.cells false) g.2),(fun g=>.agg (Attr.cells g.1)),rfl,rfl,fun v10 hvv10=>litE (m:=7) rfl (have hz23:=okE hvv10 (ok_l2One (by assumption));litE (m:=7) rfl (have hg:=bindE hvv10 hg;.inr ⟨0,[],fun us24 hu24=>⟨_,(.same _),_,_,_,_,_,c_spec_l2One v10.2 (ByteArray.mk #[120]) (by assumption),(FzAs.same _),(.same _),trivial,(Attr×Cur),(spec_l2One v10.2 (ByteArray.mk #[120])),(fun g=>(Cur.cells false) g.2),(fun g=>.agg (Attr.cells g.1)),rfl,rfl,fun v11 hvv11=>litE (m:=8) rfl (have hz25:=okE hvv11 (ok_l2One (by assumption));litE (m:=8) rfl (have hg:=bindE hvv11 hg;.inr ⟨0,[],fun us26 hu26=>⟨_,(.same _),_,_,_,_,_,c_spec_l2One v11.2 (ByteArray.mk #[121]) (by assumption),(FzAs.same _),(.same _),trivial,(Attr×Cur),(spec_l2One v11.2 (ByteArray.mk #[121])),(fun g=>(Cur.cells false) g.2),(fun g=>.agg (Attr.cells g.1)),rfl,rfl,fun v12 hvv12=>litE (m:=9) rfl (have hz27:=okE hvv12 (ok_l2One (by assumption));litE (m:=9) rfl (have hg:=bindE hvv12 hg;.inr (.inl (rowsE (Y:=List.map Attr.cells (v1.1++[v9.1,v10.1,v11.1,v12.1])) (by simp [subR0,subR1,-List.map_take,-List.map_drop,-List.drop_one,take_map',drop_map',fz_Attr,fl_Attr,fzMap fz_Attr,flMap fl_Attr];rfl) (appB (b:=48) (hs:=by have q1:=hlA;refine ⟨?_,?_⟩;(show List.length _*48≤_);(try simp only [List.length_map,List.length_append,List.length_cons,List.length_nil,List.length_take,List.length_drop]);omega;(try simp only [List.length_map,List.length_append,List.length_cons,List.length_nil,List.length_take,List.length_drop]);omega) ?_)))))⟩⟩))⟩⟩))⟩⟩))⟩⟩) (fun hg h19=>seqE (leafB hown hg)))
     exact litE (m:=9) rfl (seqE (leafB hown hg))
theorem ok_l2Any {c:Cur} (h:CurOk c):CurOk (spec_l2Any c).2:=by
 show CurR (spec_l2Any c)
 unfold spec_l2Any
 repeat' (with_reducible (first | assumption | refine bindC ?_ (fun v hv=>?_) | refine bifC ?_ ?_ | refine pairC ?_ | refine ok_l1Below ?_ | refine ok_l1Once ?_ | refine ok_l1Str ?_ | refine ok_l1Raw ?_ | refine ok_l1AnyName ?_ | refine ok_l1Plain ?_ | refine ok_l2One ?_ | refine ok_l2Draw ?_))
def spec_l3Any (p0:Cur):(Span×Cur) :=
 (bindV (spec_l3Draw p0) fun (v1:(Span×Cur))=>(bindV (spec_l1Below v1.2 12) fun (v2:(Int×Cur))=>(bif (v2.1==0) then (bindV (spec_l1Int v2.2 [0,999,1000]) fun (v3:(Int×Cur))=>({ v1.1 with Trace:=v3.1 },v3.2)) else (bif (v2.1==1) then (bindV (spec_l1Int v2.2 [0,999,1000]) fun (v4:(Int×Cur))=>({ v1.1 with Id:=v4.1 },v4.2)) else (bif (v2.1==2) then (bindV (spec_l1Int v2.2 [(-1),99999,100000]) fun (v5:(Int×Cur))=>({ v1.1 with Start:=v5.1 },v5.2)) else (bif (v2.1==3) then (bindV (spec_l1Raw v2.2) fun (v6:(Int×Cur))=>({ v1.1 with End:=v6.1 },v6.2)) else (bif (v2.1==4) then (bindV (spec_l2Any v2.2) fun (v7:((List Attr)×Cur))=>({ v1.1 with Attrs:=v7.1 },v7.2)) else (bif (v2.1==5) then (bindV (spec_l1Str v2.2 [(ByteArray.mk #[116,119,101,110,116,121,98,121,116,101,115,97,114,101,104,101,114,101,50,48]),(ByteArray.mk #[116,119,101,110,116,121,98,121,116,101,115,97,114,101,104,101,114,101,50]),(ByteArray.mk #[])]) fun (v8:(ByteArray×Cur))=>({ v1.1 with Attrs:=[(Attr.mk (ByteArray.mk #[97,97,97,97,97,97,97,97]) false 0 (ByteArray.mk #[116,119,101,110,116,121,98,121,116,101,115,97,114,101,104,101,114,101,50,48])),(Attr.mk (ByteArray.mk #[98,98,98,98,98,98,98,98]) false 0 (ByteArray.mk #[116,119,101,110,116,121,98,121,116,101,115,97,114,101,104,101,114,101,50,48])),(Attr.mk (ByteArray.mk #[99,99,99,99,99,99,99,99]) false 0 v8.1)] },v8.2)) else (v1.1,v2.2)))))))))
theorem c_spec_l3Any (p0:Cur) (hs:CurOk p0):FnOk prog 33 [.tup [.one (.b ((Cur.cells false) p0))]] ⟨.agg ((Span.cells false) (spec_l3Any p0).1),[.one (.b ((Cur.cells false) (spec_l3Any p0).2))],[],true⟩:=by
 refine FnOk.introV (E:=env) envOk wide func33 rfl (by kernel_rfl) rfl ?_
 have hg:=spec_l3Any.eq_1 p0
 have hown:(true=false→∀g:(Span×Cur),AV.Own (AV.agg ((Span.cells false) g.1)))∧(fun g:(Span×Cur)=>(Cur.cells false) g.2)=_∧(fun g:(Span×Cur)=>AV.agg ((Span.cells false) g.1))=_:=⟨(fun h=>by cases h),rfl,rfl⟩
 exact seqE (litE (m:=2) rfl (seqE (.inr ⟨0,[],fun us1 hu1=>⟨_,(.same _),_,_,_,_,_,c_spec_l3Draw p0 (by assumption),(FzAs.same _),(.same _),trivial,(Span×Cur),(spec_l3Draw p0),(fun g=>(Cur.cells false) g.2),(fun g=>.agg ((Span.cells true) g.1)),rfl,rfl,fun v1 hvv1=>litE (m:=4) rfl (have hz2:=okE hvv1 (ok_l3Draw (by assumption));litE (m:=4) rfl (have hg:=bindE hvv1 hg;litE (m:=5) rfl (seqE (seqE (.inr ⟨0,[],fun us3 hu3=>⟨_,(.same _),_,_,_,_,_,c_spec_l1Below v1.2 12 (by assumption),(FzAs.same _),(.same _),trivial,(Int×Cur),(spec_l1Below v1.2 12),(fun g=>(Cur.cells false) g.2),(fun g=>.one (.v (.int .i64 g.1))),rfl,rfl,fun v2 hvv2=>litE (m:=7) rfl (have hz4:=okE hvv2 (ok_l1Below (by assumption));have hlB:=l1Below_at hvv2;litE (m:=7) rfl (have hg:=bindE hvv2 hg;seqE (brQ hg (fun hg h5=>.inr (.inr ⟨0,[],fun us6 hu6=>⟨_,(.same _),_,_,_,_,_,c_spec_l1Int v2.2 [0,999,1000] (by exact ⟨by assumption,by simp,by simp⟩),(FzAs.same _),(.same _),trivial,(Int×Cur),(spec_l1Int v2.2 [0,999,1000]),(fun g=>(Cur.cells false) g.2),(fun g=>.one (.v (.int .i64 g.1))),rfl,rfl,fun v3 hvv3=>litE (m:=8) rfl (have hz7:=okE hvv3 (ok_l1Int (by assumption));litE (m:=8) rfl (have hg:=bindE hvv3 hg;seqE (leafBZ hown hg (by rfl) (FzQ.ag (.cons (.same _) (.cons (.same _) (.cons (.same _) (.cons (.same _) (.cons (.same _) (.cons (.sl _ _ _ _ (frzMap frz_Attr _)) (.same _)))))))))))⟩⟩)) (fun hg h5=>seqE (brQ hg (fun hg h8=>.inr (.inr ⟨0,[],fun us9 hu9=>⟨_,(.same _),_,_,_,_,_,c_spec_l1Int v2.2 [0,999,1000] (by exact ⟨by assumption,by simp,by simp⟩),(FzAs.same _),(.same _),trivial,(Int×Cur),(spec_l1Int v2.2 [0,999,1000]),(fun g=>(Cur.cells false) g.2),(fun g=>.one (.v (.int .i64 g.1))),rfl,rfl,fun v4 hvv4=>litE (m:=8) rfl (have hz10:=okE hvv4 (ok_l1Int (by assumption));litE (m:=8) rfl (have hg:=bindE hvv4 hg;seqE (leafBZ hown hg (by rfl) (FzQ.ag (.cons (.same _) (.cons (.same _) (.cons (.same _) (.cons (.same _) (.cons (.same _) (.cons (.sl _ _ _ _ (frzMap frz_Attr _)) (.same _)))))))))))⟩⟩)) (fun hg h8=>seqE (brQ hg (fun hg h11=>.inr (.inr ⟨0,[],fun us12 hu12=>⟨_,(.same _),_,_,_,_,_,c_spec_l1Int v2.2 [(-1),99999,100000] (by exact ⟨by assumption,by simp,by simp⟩),(FzAs.same _),(.same _),trivial,(Int×Cur),(spec_l1Int v2.2 [(-1),99999,100000]),(fun g=>(Cur.cells false) g.2),(fun g=>.one (.v (.int .i64 g.1))),rfl,rfl,fun v5 hvv5=>litE (m:=8) rfl (have hz13:=okE hvv5 (ok_l1Int (by assumption));litE (m:=8) rfl (have hg:=bindE hvv5 hg;seqE (leafBZ hown hg (by rfl) (FzQ.ag (.cons (.same _) (.cons (.same _) (.cons (.same _) (.cons (.same _) (.cons (.same _) (.cons (.sl _ _ _ _ (frzMap frz_Attr _)) (.same _)))))))))))⟩⟩)) (fun hg h11=>seqE (brQ hg (fun hg h14=>.inr ⟨0,[],fun us15 hu15=>⟨_,(.same _),_,_,_,_,_,c_spec_l1Raw v2.2 (by assumption),(FzAs.same _),(.same _),trivial,(Int×Cur),(spec_l1Raw v2.2),(fun g=>(Cur.cells false) g.2),(fun g=>.one (.v (.int .i64 g.1))),rfl,rfl,fun v6 hvv6=>litE (m:=8) rfl (have hz16:=okE hvv6 (ok_l1Raw (by assumption));litE (m:=8) rfl (have hg:=bindE hvv6 hg;seqE (leafBZ hown hg (by rfl) (FzQ.ag (.cons (.same _) (.cons (.same _) (.cons (.same _) (.cons (.same _) (.cons (.same _) (.cons (.sl _ _ _ _ (frzMap frz_Attr _)) (.same _)))))))))))⟩⟩) (fun hg h14=>seqE (brQ hg (fun hg h17=>.inr ⟨0,[],fun us18 hu18=>⟨_,(.same _),_,_,_,_,_,c_spec_l2Any v2.2 (by assumption),(FzAs.same _),(.same _),trivial,((List Attr)×Cur),(spec_l2Any v2.2),(fun g=>(Cur.cells false) g.2),(fun g=>.one (.s true 4 (List.map Attr.cells g.1))),rfl,rfl,fun v7 hvv7=>litE (m:=8) rfl (have hz19:=okE hvv7 (ok_l2Any (by assumption));litE (m:=8) rfl (have hg:=bindE hvv7 hg;seqE (leafBZ hown hg (by rfl) (FzQ.ag (.cons (.same _) (.cons (.same _) (.cons (.same _) (.cons (.same _) (.cons (.same _) (.cons (.sl _ _ _ _ (frzMap frz_Attr _)) (.same _)))))))))))⟩⟩) (fun hg h17=>seqE (brQ hg (fun hg h20=>.inr (.inr ⟨0,[],fun us21 hu21=>⟨_,(.same _),_,_,_,_,_,c_spec_l1Str v2.2 [(ByteArray.mk #[116,119,101,110,116,121,98,121,116,101,115,97,114,101,104,101,114,101,50,48]),(ByteArray.mk #[116,119,101,110,116,121,98,121,116,101,115,97,114,101,104,101,114,101,50]),(ByteArray.mk #[])] (by exact ⟨by assumption,by simp,by simp⟩),(FzAs.same _),(.same _),trivial,(ByteArray×Cur),(spec_l1Str v2.2 [(ByteArray.mk #[116,119,101,110,116,121,98,121,116,101,115,97,114,101,104,101,114,101,50,48]),(ByteArray.mk #[116,119,101,110,116,121,98,121,116,101,115,97,114,101,104,101,114,101,50]),(ByteArray.mk #[])]),(fun g=>(Cur.cells false) g.2),(fun g=>.one (.v (.string g.1))),rfl,rfl,fun v8 hvv8=>litE (m:=8) rfl (have hz22:=okE hvv8 (ok_l1Str (by assumption));litE (m:=8) rfl (have hg:=bindE hvv8 hg;.inr (seqE (leafBZ hown hg (by rfl) (.one (.same _) (fun _ h=>by cases h) (fun _ h=>by cases h))))))⟩⟩)) (fun hg h20=>seqE (leafBZ hown hg (by rfl) (FzQ.ag (.cons (.same _) (.cons (.same _) (.cons (.same _) (.cons (.same _) (.cons (.same _) (.cons (.sl _ _ _ _ (frzMap frz_Attr _)) (.same _)))))))))))))))))))))))⟩⟩)))))⟩⟩)))
theorem ok_l3Any {c:Cur} (h:CurOk c):CurOk (spec_l3Any c).2:=by
 show CurR (spec_l3Any c)
 unfold spec_l3Any
 repeat' (with_reducible (first | assumption | refine bindC ?_ (fun v hv=>?_) | refine bifC ?_ ?_ | refine pairC ?_ | refine ok_l1Below ?_ | refine ok_l1Int ?_ | refine ok_l1Str ?_ | refine ok_l1Raw ?_ | refine ok_l2Any ?_ | refine ok_l3Draw ?_))
def spec_l5Copy_b1 (r0:(Pol→Pol)) (i1:Nat) (s1:(List Pol)) (a1:Pol):Step ((List Pol)) Pol :=
 (.next (s1++[(r0 a1)]))
def spec_l5CopyR:Nat→Pol→Pol
 | 0,_=>default
 | n+1,p0=>(Fin.get (fun s1=>{ p0 with L:=s1 }) (loopL (spec_l5Copy_b1 (spec_l5CopyR n)) 0 ([]:List Pol) p0.L))
theorem cR_spec_l5Copy:∀(n:Nat) (p0:Pol),Pol.dep p0 < n→Pol.bd 16777216 p0→FnOk prog 86 [.agg (Pol.opn false p0)] ⟨.agg (Pol.opn true (spec_l5CopyR n p0)),[],[],false⟩:=by
 intro n
 induction n with
 | zero=>intro p0 hd0;omega
 | succ n ih =>
   intro p0 hd0 hs
   refine FnOk.intro (E:=env) envOk wide func86 rfl (by kernel_rfl) rfl rfl ?_
   have hg:spec_l5CopyR (n+1) p0=_:=spec_l5CopyR.eq_2 ..
   have hown:∀g:Pol,AV.Own (AV.agg (Pol.opn true g)):=fun g=>ownO_Pol _
   refine seqE ?_
   refine litE (m:=0) rfl ?_
   refine litE (m:=1) rfl ?_
   refine seqE ?_
   refine litE (m:=2) rfl ?_
   refine seqE ?_
   refine .inl (litE (m:=3) rfl ?_)
   refine seqE ?_
   refine seqE ?_
   refine loopLI (fun (i:Nat) s=>s.length≤i) hg (Nat.le_refl _) [1,2,3] (fun x1=>[(4,.one (.v (.int .i64 ((x1.i:Nat):Int))))]) (fun x1=>[.keep 0,.keep 1,.new ⟨5,true,[[.v (.int .i64 p0.Kind),.v (.int .i64 p0.N),.v (.string p0.Key),.v (.string p0.Text),.n 3 [] 1 0 (x1.s).length]],0⟩,.new ⟨5,false,List.map (Pol.cells true) x1.s,0⟩]) [some 0,some 1,some 2,some 3] ?_ (fun x1=>?_)
   · exact ⟨rfl,(by repeat' constructor),⟨(by repeat' constructor),(by repeat' constructor),⟨rfl,rfl,⟨rfl,rfl,rfl,rfl,⟨rfl,rfl,rfl,rfl,by (rfl)⟩,trivial⟩⟩,⟨rfl,rfl,rfl⟩,trivial⟩,trivial⟩
   have hI1:=x1.hI
   try dsimp only at hI1
   refine seqE ?_
   refine seqE ?_
   refine lenM fun hN1=>?_
   refine tstL (fun hi1=>?_) (fun hi1=>?_)
   · have hb1:=(x1.bdy hi1).trans (spec_l5Copy_b1.eq_1 ..)
     have hw1:=wrap_succ hi1 (by assumption)
     refine seqE ?_
     refine seqE ?_
     refine idxAtR (Pol.cells_eq false) hi1 ?_
     refine .inl (⟨_,_,ih (p0.L[x1.i]'hi1) (by exact Nat.lt_of_lt_of_le (Pol.dep_lt (List.getElem_mem _)) (Nat.le_of_lt_succ hd0)) (by exact (Pol.bd_eq.1 hs).2.2.get hi1),(FzAs.same _),?_⟩)
     refine litE (m:=5) rfl ?_
     refine litE (m:=6) rfl ?_
     refine .inl (litE (m:=7) rfl ?_)
     refine .inl ?_
     refine rowsE (Y:=List.map (Pol.cells true) (x1.s++[((spec_l5CopyR n) (p0.L[x1.i]'hi1))])) (by simp [subR0,subR1,-List.map_take,-List.map_drop,-List.drop_one,take_map',drop_map',fz_Pol,fzMap fz_Pol,shMap sh_Pol,Pol.cells_eq];rfl) ?_
     refine appB (b:=72) (hs:=by have q0:p0.L.length≤16777216:=(Pol.bd_eq.1 hs).2.2.1;have q1:=hI1;have q2:=hi1;refine ⟨?_,?_⟩;(show List.length _*72≤_);(try simp only [List.length_map,List.length_append,List.length_cons,List.length_nil,List.length_take,List.length_drop]);omega;(try simp only [List.length_map,List.length_append,List.length_cons,List.length_nil,List.length_take,List.length_drop]);omega) ?_
     refine litE (m:=8) rfl ?_
     exact x1.goE hi1 hb1 (by have q1:=hI1;(try simp only [List.length_map,List.length_append,List.length_cons,List.length_nil,List.length_take,List.length_drop]);omega) [some 0,some 1,some 2,some 8] ⟨rfl,⟨(eqInt hw1),⟨rfl,rfl,rfl,rfl⟩,⟨rfl,rfl,rfl,rfl⟩,⟨rfl,rfl,rfl,rfl⟩,trivial⟩,⟨(by repeat' constructor),(by repeat' constructor),⟨rfl,rfl,⟨rfl,rfl,rfl,rfl,⟨rfl,rfl,rfl,rfl,by ((simp [LstSt.init,LstSt.step,LstInv.init,CntSt.init,CntSt.step,CntInv.init,WhlSt.init,WhlSt.step];done))⟩,trivial⟩⟩,⟨rfl,rfl,rfl⟩,trivial⟩,trivial⟩
   have hg:=finE hg (x1.fin hi1)
   refine seqE ?_
   exact leafE hown hg
def spec_l5Copy (p0:Pol):Pol:=spec_l5CopyR (Pol.dep p0+1) p0
theorem c_spec_l5Copy (p0:Pol) (hs:Pol.bd 16777216 p0):FnOk prog 86 [.agg (Pol.opn false p0)] ⟨.agg (Pol.opn true (spec_l5Copy p0)),[],[],false⟩:=cR_spec_l5Copy _ p0 (Nat.lt_succ_self _) hs
theorem l5CopyR_eq:∀(n:Nat) (p:Pol),Pol.dep p < n→spec_l5CopyR n p=p
 | 0,p,h=>absurd h (Nat.not_lt_zero _)
 | n+1,p,h=>by
   rw [spec_l5CopyR.eq_2]
   have key:∀(l:List Pol) (i:Nat) (s:List Pol),(∀q∈l,q∈p.L)→loopL (spec_l5Copy_b1 (spec_l5CopyR n)) i s l=.fin (s++l):=by
    intro l
    induction l with
    | nil=>intro i s _;rw [List.append_nil];rfl
    | cons a l ih =>
      intro i s hm
      have ha:=l5CopyR_eq n a (by have:=Pol.dep_lt (hm a (List.mem_cons_self ..));omega)
      show loopL (spec_l5Copy_b1 (spec_l5CopyR n)) (i+1) (s++[spec_l5CopyR n a]) l=_
      rw [ha,ih (i+1) (s++[a]) (fun q hq=>hm q (List.mem_cons_of_mem _ hq)),List.append_assoc]
      rfl
   rw [key p.L 0 [] (fun _ h=>h)]
   cases p
   rfl
theorem spec_l5Copy_eq (p:Pol):spec_l5Copy p=p:=l5CopyR_eq _ p (Nat.lt_succ_self _)
def spec_l13Copy (p0:Conf):Conf :=
 { p0 with Rule:=(spec_l5Copy p0.Rule) }
theorem c_spec_l13Copy (p0:Conf) (hs:Conf.bd 16777216 p0):FnOk prog 64 [.agg ((Conf.cells false) p0)] ⟨.agg ((Conf.cells true) (spec_l13Copy p0)),[],[],false⟩:=by
 refine FnOk.intro (E:=env) envOk wide func64 rfl (by kernel_rfl) rfl rfl ?_
 have hg:=spec_l13Copy.eq_1 p0
 have hown:∀g:Conf,AV.Own (AV.agg ((Conf.cells true) g)):=fun g=>own_Conf _
 exact seqE (litE (m:=0) rfl (litE (m:=1) rfl (seqE (litE (m:=2) rfl (seqE (.inl (⟨_,_,c_spec_l5Copy p0.Rule (by exact hs),(FzAs.same _),litE (m:=4) rfl (litE (m:=5) rfl (seqE (seqE (leafE hown hg))))⟩)))))))
theorem spec_l13Copy_eq (x:Conf):spec_l13Copy x=x:=by cases x;simp [spec_l13Copy,spec_l5Copy_eq]
def spec_l3Copy (p0:Span):Span :=
 p0
theorem c_spec_l3Copy (p0:Span) (hs:p0.Attrs.length≤16777216):FnOk prog 89 [.agg ((Span.cells false) p0)] ⟨.agg ((Span.cells true) (spec_l3Copy p0)),[],[],false⟩:=by
 refine FnOk.intro (E:=env) envOk wide func89 rfl (by kernel_rfl) rfl rfl ?_
 have hg:=spec_l3Copy.eq_1 p0
 have hown:∀g:Span,AV.Own (AV.agg ((Span.cells true) g)):=fun g=>own_Span _
 refine seqE (litE (m:=0) rfl (litE (m:=1) rfl (seqE (.inl (litE (m:=2) rfl (.inl (rowsE (Y:=List.map Attr.cells p0.Attrs) (by simp [subR0,subR1,-List.map_take,-List.map_drop,-List.drop_one,take_map',drop_map',fz_Attr,fl_Attr,fzMap fz_Attr,flMap fl_Attr];done) (appB (b:=48) (hs:=by have hl:=hs;refine ⟨?_,?_⟩;(show List.length _*48≤_);(try simp only [List.length_map,List.length_append,List.length_cons,List.length_nil,List.length_take,List.length_drop]);omega;(try simp only [List.length_map,List.length_append,List.length_cons,List.length_nil,List.length_take,List.length_drop]);omega) ?_))))))))
 exact litE (m:=3) rfl (seqE (leafE hown hg))
theorem spec_l3Copy_eq (x:Span):spec_l3Copy x=x:=by cases x;simp [spec_l3Copy]
def spec_l3All_b1 (i1:Nat) (s1:(List Span)) (a1:Span):Step ((List Span)) (List Span) :=
 (.next (s1++[(spec_l3Copy a1)]))
def spec_l3All (p0:(List Span)):(List Span) :=
 (Fin.get (fun s1=>s1) (loopL spec_l3All_b1 0 ([]:List Span) p0))
theorem c_spec_l3All (p0:(List Span)) (hs:bdS Span.bd 16777216 p0):FnOk prog 117 [.one (.s false 6 (List.map (Span.cells false) p0))] ⟨.one (.s true 6 (List.map (Span.cells true) (spec_l3All p0))),[],[],false⟩:=by
 refine FnOk.intro (E:=env) envOk wide func117 rfl (by kernel_rfl) rfl rfl ?_
 have hg:=spec_l3All.eq_1 p0
 have hown:∀g:(List Span),AV.Own (AV.one (.s true 6 (List.map (Span.cells true) g))):=fun g=>ownSl own_Span _
 refine seqE (seqE (.inl (litE (m:=0) rfl (seqE (seqE (loopLI (fun (i:Nat) s=>s.length≤i) hg (Nat.le_refl _) [0] (fun x1=>[(3,.one (.n 0 [] 1 0 (x1.s).length)),(4,.one (.v (.int .i64 ((x1.i:Nat):Int))))]) (fun x1=>[.new ⟨6,false,List.map (Span.cells true) x1.s,0⟩]) [some 0] (⟨rfl,⟨⟨rfl,rfl,rfl,rfl,by (rfl)⟩,rfl,rfl,trivial⟩,⟨⟨rfl,rfl,rfl⟩,trivial⟩,trivial⟩) (fun x1=>?_)))))))
 have hI1:=x1.hI
 try dsimp only at hI1
 refine seqE (seqE (lenM fun hN1=>tstL (fun hi1=>have hb1:=(x1.bdy hi1).trans (spec_l3All_b1.eq_1 ..);have hw1:=wrap_succ hi1 (by assumption);seqE (seqE (idxAt hi1 (.inl (⟨_,_,c_spec_l3Copy (p0[x1.i]'hi1) (by exact (hs.get hi1).1),(FzAs.same _),litE (m:=2) rfl (litE (m:=3) rfl (.inl (litE (m:=4) rfl (.inl (rowsE (Y:=List.map (Span.cells true) (x1.s++[(spec_l3Copy (p0[x1.i]'hi1))])) (by simp [subR0,subR1,-List.map_take,-List.map_drop,-List.drop_one,take_map',drop_map',fz_Span,fzMap fz_Span,shMap sh_Span];rfl) (appB (b:=64) (hs:=by have q0:=hs.1;have q1:=hI1;have q2:=hi1;refine ⟨?_,?_⟩;(show List.length _*64≤_);(try simp only [List.length_map,List.length_append,List.length_cons,List.length_nil,List.length_take,List.length_drop]);omega;(try simp only [List.length_map,List.length_append,List.length_cons,List.length_nil,List.length_take,List.length_drop]);omega) ?_))))))⟩))))) (fun hi1=>have hg:=finE hg (x1.fin hi1);seqE (leafE hown hg))))
 exact litE (m:=5) rfl (x1.goE hi1 hb1 (by have q1:=hI1;simp only [List.length_append,List.length_cons,List.length_nil];omega) [some 5] ⟨rfl,⟨⟨rfl,rfl,rfl,rfl,by ((simp [LstSt.init,LstSt.step,LstInv.init,CntSt.init,CntSt.step,CntInv.init,WhlSt.init,WhlSt.step];done))⟩,(eqInt hw1),rfl,trivial⟩,⟨⟨rfl,rfl,rfl⟩,trivial⟩,trivial⟩)
theorem spec_l3All_eq (l:List Span):spec_l3All l=l:=by
 unfold spec_l3All
 rw [app_flat (b:=spec_l3All_b1) (fun a=>[a]) (fun i s a=>by unfold spec_l3All_b1;rw [spec_l3Copy_eq]),List.nil_append]
 show l.flatMap (fun a=>[a])=l
 induction l with
 | nil=>rfl
 | cons a l ih=>rw [List.flatMap_cons,ih];rfl
def spec_l10Copy (p0:Trail):Trail :=
 { p0 with Spans:=(spec_l3All p0.Spans) }
theorem c_spec_l10Copy (p0:Trail) (hs:Trail.bd 16777216 p0):FnOk prog 102 [.agg ((Trail.cells false) p0)] ⟨.agg ((Trail.cells true) (spec_l10Copy p0)),[],[],false⟩:=by
 refine FnOk.intro (E:=env) envOk wide func102 rfl (by kernel_rfl) rfl rfl ?_
 have hg:=spec_l10Copy.eq_1 p0
 have hown:∀g:Trail,AV.Own (AV.agg ((Trail.cells true) g)):=fun g=>own_Trail _
 exact seqE (litE (m:=0) rfl (litE (m:=1) rfl (seqE (.inl (⟨_,_,c_spec_l3All p0.Spans (by exact hs),(FzAs.same _),litE (m:=3) rfl (seqE (leafE hown hg))⟩)))))
theorem spec_l10Copy_eq (x:Trail):spec_l10Copy x=x:=by cases x;simp [spec_l10Copy,spec_l3All_eq]
def spec_l10All_b1 (i1:Nat) (s1:(List Trail)) (a1:Trail):Step ((List Trail)) (List Trail) :=
 (.next (s1++[(spec_l10Copy a1)]))
def spec_l10All (p0:(List Trail)):(List Trail) :=
 (Fin.get (fun s1=>s1) (loopL spec_l10All_b1 0 ([]:List Trail) p0))
theorem c_spec_l10All (p0:(List Trail)) (hs:bdS Trail.bd 16777216 p0):FnOk prog 87 [.one (.s false 4 (List.map (Trail.cells false) p0))] ⟨.one (.s true 4 (List.map (Trail.cells true) (spec_l10All p0))),[],[],false⟩:=by
 refine FnOk.intro (E:=env) envOk wide func87 rfl (by kernel_rfl) rfl rfl ?_
 have hg:=spec_l10All.eq_1 p0
 have hown:∀g:(List Trail),AV.Own (AV.one (.s true 4 (List.map (Trail.cells true) g))):=fun g=>ownSl own_Trail _
 refine seqE (seqE (.inl (litE (m:=0) rfl (seqE (seqE (loopLI (fun (i:Nat) s=>s.length≤i) hg (Nat.le_refl _) [0] (fun x1=>[(3,.one (.n 0 [] 1 0 (x1.s).length)),(4,.one (.v (.int .i64 ((x1.i:Nat):Int))))]) (fun x1=>[.new ⟨4,false,List.map (Trail.cells true) x1.s,0⟩]) [some 0] (⟨rfl,⟨⟨rfl,rfl,rfl,rfl,by (rfl)⟩,rfl,rfl,trivial⟩,⟨⟨rfl,rfl,rfl⟩,trivial⟩,trivial⟩) (fun x1=>?_)))))))
 have hI1:=x1.hI
 try dsimp only at hI1
 refine seqE (seqE (lenM fun hN1=>tstL (fun hi1=>have hb1:=(x1.bdy hi1).trans (spec_l10All_b1.eq_1 ..);have hw1:=wrap_succ hi1 (by assumption);seqE (seqE (idxAt hi1 (.inl (⟨_,_,c_spec_l10Copy (p0[x1.i]'hi1) (by exact hs.get hi1),(FzAs.same _),litE (m:=2) rfl (litE (m:=3) rfl (.inl (litE (m:=4) rfl (.inl (rowsE (Y:=List.map (Trail.cells true) (x1.s++[(spec_l10Copy (p0[x1.i]'hi1))])) (by simp [subR0,subR1,-List.map_take,-List.map_drop,-List.drop_one,take_map',drop_map',fz_Trail,fzMap fz_Trail,shMap sh_Trail];rfl) (appB (b:=48) (hs:=by have q0:=hs.1;have q1:=hI1;have q2:=hi1;refine ⟨?_,?_⟩;(show List.length _*48≤_);(try simp only [List.length_map,List.length_append,List.length_cons,List.length_nil,List.length_take,List.length_drop]);omega;(try simp only [List.length_map,List.length_append,List.length_cons,List.length_nil,List.length_take,List.length_drop]);omega) ?_))))))⟩))))) (fun hi1=>have hg:=finE hg (x1.fin hi1);seqE (leafE hown hg))))
 exact litE (m:=5) rfl (x1.goE hi1 hb1 (by have q1:=hI1;simp only [List.length_append,List.length_cons,List.length_nil];omega) [some 5] ⟨rfl,⟨⟨rfl,rfl,rfl,rfl,by ((simp [LstSt.init,LstSt.step,LstInv.init,CntSt.init,CntSt.step,CntInv.init,WhlSt.init,WhlSt.step];done))⟩,(eqInt hw1),rfl,trivial⟩,⟨⟨rfl,rfl,rfl⟩,trivial⟩,trivial⟩)
theorem spec_l10All_eq (l:List Trail):spec_l10All l=l:=by
 unfold spec_l10All
 rw [app_flat (b:=spec_l10All_b1) (fun a=>[a]) (fun i s a=>by unfold spec_l10All_b1;rw [spec_l10Copy_eq]),List.nil_append]
 show l.flatMap (fun a=>[a])=l
 induction l with
 | nil=>rfl
 | cons a l ih=>rw [List.flatMap_cons,ih];rfl
def spec_l11Copy_b1 (i1:Nat) (s1:(List Stripe)) (a1:Stripe):Step ((List Stripe)) (List Stripe) :=
 (.next (s1++[(Stripe.mk a1.Held (spec_l10All a1.L))]))
def spec_l11Copy (p0:(List Stripe)):(List Stripe) :=
 (Fin.get (fun s1=>s1) (loopL spec_l11Copy_b1 0 ([]:List Stripe) p0))
theorem c_spec_l11Copy (p0:(List Stripe)) (hs:bdS Stripe.bd 16777216 p0):FnOk prog 68 [.one (.s false 2 (List.map (Stripe.cells false) p0))] ⟨.one (.s true 2 (List.map (Stripe.cells true) (spec_l11Copy p0))),[],[],false⟩:=by
 refine FnOk.intro (E:=env) envOk wide func68 rfl (by kernel_rfl) rfl rfl ?_
 have hg:=spec_l11Copy.eq_1 p0
 have hown:∀g:(List Stripe),AV.Own (AV.one (.s true 2 (List.map (Stripe.cells true) g))):=fun g=>ownSl own_Stripe _
 refine seqE (seqE (.inl (litE (m:=0) rfl (seqE (seqE (loopLI (fun (i:Nat) s=>s.length≤i) hg (Nat.le_refl _) [0] (fun x1=>[(3,.one (.n 0 [] 1 0 (x1.s).length)),(4,.one (.v (.int .i64 ((x1.i:Nat):Int))))]) (fun x1=>[.new ⟨2,false,List.map (Stripe.cells true) x1.s,0⟩]) [some 0] (⟨rfl,⟨⟨rfl,rfl,rfl,rfl,by (rfl)⟩,rfl,rfl,trivial⟩,⟨⟨rfl,rfl,rfl⟩,trivial⟩,trivial⟩) (fun x1=>?_)))))))
 have hI1:=x1.hI
 try dsimp only at hI1
 refine seqE (seqE (lenM fun hN1=>tstL (fun hi1=>have hb1:=(x1.bdy hi1).trans (spec_l11Copy_b1.eq_1 ..);have hw1:=wrap_succ hi1 (by assumption);seqE (.inr (.inl ⟨(.seg 14 14 (.q 0 (.q 1 (.q 2 (.q 3 (.q 4 (.q 5 (.q 6 (.q 7 (.q 8 (.q 9 (.q 10 (.o 11 (.o 12 (.o 13 .leaf)))))))))))))) (.tail 14)),by kernel_rfl,idxAt hi1 (idxAt hi1 (⟨_,_,c_spec_l10All (p0[x1.i]'hi1).L (by exact hs.get hi1),(FzAs.same _),litE (m:=2) rfl (.inl (litE (m:=3) rfl (.inl (rowsE (Y:=List.map (Stripe.cells true) (x1.s++[(Stripe.mk (p0[x1.i]'hi1).Held (spec_l10All (p0[x1.i]'hi1).L))])) (by simp [subR0,subR1,-List.map_take,-List.map_drop,-List.drop_one,take_map',drop_map',fz_Stripe,fzMap fz_Stripe,shMap sh_Stripe];rfl) (appB (b:=32) (hs:=by have q0:=hs.1;have q1:=hI1;have q2:=hi1;have q3:=hs.get hi1;(try have q4:=q3.1);refine ⟨?_,?_⟩;(show List.length _*32≤_);(try simp only [List.length_map,List.length_append,List.length_cons,List.length_nil,List.length_take,List.length_drop]);omega;(try simp only [List.length_map,List.length_append,List.length_cons,List.length_nil,List.length_take,List.length_drop]);omega) ?_)))))⟩))⟩))) (fun hi1=>have hg:=finE hg (x1.fin hi1);seqE (leafE hown hg))))
 exact litE (m:=4) rfl (x1.goE hi1 hb1 (by have q1:=hI1;(try simp only [List.length_map,List.length_append,List.length_cons,List.length_nil,List.length_take,List.length_drop]);omega) [some 4] ⟨rfl,⟨⟨rfl,rfl,rfl,rfl,by ((simp [LstSt.init,LstSt.step,LstInv.init,CntSt.init,CntSt.step,CntInv.init,WhlSt.init,WhlSt.step];done))⟩,(eqInt hw1),rfl,trivial⟩,⟨⟨rfl,rfl,rfl⟩,trivial⟩,trivial⟩)
theorem spec_l11Copy_eq (l:List Stripe):spec_l11Copy l=l:=by
 unfold spec_l11Copy
 rw [app_flat (b:=spec_l11Copy_b1) (fun a=>[a]) (fun i s a=>by unfold spec_l11Copy_b1;rw [spec_l10All_eq]),List.nil_append]
 show l.flatMap (fun a=>[a])=l
 induction l with
 | nil=>rfl
 | cons a l ih=>rw [List.flatMap_cons,ih];rfl
def spec_l8Lists_b1 (i1:Nat) (s1:(List (List Timer))) (a1:(List Timer)):Step ((List (List Timer))) (List (List Timer)) :=
 (.next (s1++[a1]))
def spec_l8Lists (p0:(List (List Timer))):(List (List Timer)) :=
 (Fin.get (fun s1=>s1) (loopL spec_l8Lists_b1 0 ([]:List (List Timer)) p0))
theorem c_spec_l8Lists (p0:(List (List Timer))) (hs:bdS (bdS Timer.bd) 16777216 p0):FnOk prog 88 [.one (.s false 1 (List.map (cSl false 3 Timer.cells) p0))] ⟨.one (.s true 1 (List.map (cSl true 3 Timer.cells) (spec_l8Lists p0))),[],[],false⟩:=by
 refine FnOk.intro (E:=env) envOk wide func88 rfl (by kernel_rfl) rfl rfl ?_
 have hg:=spec_l8Lists.eq_1 p0
 have hown:∀g:(List (List Timer)),AV.Own (AV.one (.s true 1 (List.map (cSl true 3 Timer.cells) g))):=fun g=>ownSl (own_cSl own_Timer) _
 refine seqE (seqE (.inl (litE (m:=0) rfl (seqE (seqE (loopLI (fun (i:Nat) s=>s.length≤i) hg (Nat.le_refl _) [0] (fun x1=>[(3,.one (.n 0 [] 1 0 (x1.s).length)),(4,.one (.v (.int .i64 ((x1.i:Nat):Int))))]) (fun x1=>[.new ⟨1,false,List.map (cSl true 3 Timer.cells) x1.s,0⟩]) [some 0] (⟨rfl,⟨⟨rfl,rfl,rfl,rfl,by (rfl)⟩,rfl,rfl,trivial⟩,⟨⟨rfl,rfl,rfl⟩,trivial⟩,trivial⟩) (fun x1=>?_)))))))
 have hI1:=x1.hI
 try dsimp only at hI1
 refine seqE (seqE (lenM fun hN1=>tstL (fun hi1=>have hb1:=(x1.bdy hi1).trans (spec_l8Lists_b1.eq_1 ..);have hw1:=wrap_succ hi1 (by assumption);seqE (.inl (litE (m:=1) rfl (idxAt hi1 (.inl (rowsE (Y:=List.map Timer.cells (p0[x1.i]'hi1)) (by simp [subR0,subR1,-List.map_take,-List.map_drop,-List.drop_one,take_map',drop_map',fz_Timer,fl_Timer,fzMap fz_Timer,flMap fl_Timer];done) (appB (b:=24) (hs:=by have q0:=hs.1;have q1:=hI1;have q2:=hi1;have q3:=hs.get hi1;(try have q4:=q3.1);refine ⟨?_,?_⟩;(show List.length _*24≤_);(try simp only [List.length_map,List.length_append,List.length_cons,List.length_nil,List.length_take,List.length_drop]);omega;(try simp only [List.length_map,List.length_append,List.length_cons,List.length_nil,List.length_take,List.length_drop]);omega) ?_))))))) (fun hi1=>have hg:=finE hg (x1.fin hi1);seqE (leafE hown hg))))
 refine litE (m:=2) rfl (.inl (litE (m:=3) rfl (.inl (rowsE (Y:=List.map (cSl true 3 Timer.cells) (x1.s++[(p0[x1.i]'hi1)])) (by simp [subR0,subR1,-List.map_take,-List.map_drop,-List.drop_one,take_map',drop_map',fzMap (fz_cSl frz_Timer)];rfl) (appB (b:=24) (hs:=by have q0:=hs.1;have q1:=hI1;have q2:=hi1;have q3:=hs.get hi1;(try have q4:=q3.1);refine ⟨?_,?_⟩;(show List.length _*24≤_);(try simp only [List.length_map,List.length_append,List.length_cons,List.length_nil,List.length_take,List.length_drop]);omega;(try simp only [List.length_map,List.length_append,List.length_cons,List.length_nil,List.length_take,List.length_drop]);omega) ?_)))))
 exact litE (m:=4) rfl (x1.goE hi1 hb1 (by have q1:=hI1;(try simp only [List.length_map,List.length_append,List.length_cons,List.length_nil,List.length_take,List.length_drop]);omega) [some 4] ⟨rfl,⟨⟨rfl,rfl,rfl,rfl,by ((simp [LstSt.init,LstSt.step,LstInv.init,CntSt.init,CntSt.step,CntInv.init,WhlSt.init,WhlSt.step];done))⟩,(eqInt hw1),rfl,trivial⟩,⟨⟨rfl,rfl,rfl⟩,trivial⟩,trivial⟩)
def spec_l8Copy (p0:Wheel):Wheel :=
 { p0 with Near:=(spec_l8Lists p0.Near),Far:=(spec_l8Lists p0.Far) }
theorem c_spec_l8Copy (p0:Wheel) (hs:Wheel.bd 16777216 p0):FnOk prog 69 [.agg ((Wheel.cells false) p0)] ⟨.agg ((Wheel.cells true) (spec_l8Copy p0)),[],[],false⟩:=by
 refine FnOk.intro (E:=env) envOk wide func69 rfl (by kernel_rfl) rfl rfl ?_
 have hg:=spec_l8Copy.eq_1 p0
 have hown:∀g:Wheel,AV.Own (AV.agg ((Wheel.cells true) g)):=fun g=>own_Wheel _
 refine seqE (litE (m:=0) rfl (litE (m:=1) rfl (seqE (.inr (.inr ⟨(.q 0 (.q 2 (.q 5 (.q 9 (.z 1 (.z 3 (.z 6 (.z 10 (.b 4 [1,6,10] (.b 7 [1,10] (.m 8 [1,10] (.m 11 [1] (.m 12 [] (.m 13 [] .leaf)))) 8 [1,6,10] (.m 7 [1,10] (.m 11 [1] (.m 12 [] (.m 13 [] .leaf))))) 8 [1,3,6,10] (.m 4 [1,6,10] (.m 7 [1,10] (.m 11 [1] (.m 12 [] (.m 13 [] .leaf)))))))))))))),by kernel_rfl,And.intro ?_ ?_⟩)))))
 · refine .inl (⟨_,_,c_spec_l8Lists p0.Near (by exact hs.1),(FzAs.same _),litE (m:=3) rfl (And.intro (And.intro (⟨rfl,rfl⟩) (And.intro (⟨rfl,rfl⟩) (And.intro (⟨rfl,rfl⟩) trivial))) (And.intro ?_ ?_))⟩)
   · refine .inl (⟨_,_,c_spec_l8Lists p0.Far (by exact hs.2.1),(FzAs.same _),litE (m:=5) rfl (And.intro (And.intro (⟨rfl,rfl⟩) (And.intro (⟨rfl,rfl⟩) trivial)) (.inl (litE (m:=6) rfl (And.intro (And.intro (⟨rfl,rfl⟩) (And.intro (⟨rfl,rfl⟩) trivial)) (.inl (rowsE (Y:=List.map Timer.cells p0.Rest) (by simp [subR0,subR1,-List.map_take,-List.map_drop,-List.drop_one,take_map',drop_map',fz_Timer,fl_Timer,fzMap fz_Timer,flMap fl_Timer];done) (appB (b:=24) (hs:=by have q0:=hs.2.2.1;refine ⟨?_,?_⟩;(show List.length _*24≤_);(try simp only [List.length_map,List.length_append,List.length_cons,List.length_nil,List.length_take,List.length_drop]);omega;(try simp only [List.length_map,List.length_append,List.length_cons,List.length_nil,List.length_take,List.length_drop]);omega) ?_)))))))⟩)
     exact litE (m:=7) rfl (And.intro (And.intro (⟨rfl,rfl⟩) trivial) (And.intro trivial (And.intro trivial (leafE hown hg))))
   refine .inl (litE (m:=4) rfl (And.intro (And.intro (⟨rfl,rfl⟩) (And.intro (⟨rfl,rfl⟩) (And.intro (⟨rfl,rfl⟩) trivial))) (.inl (⟨_,_,c_spec_l8Lists p0.Far (by exact hs.2.1),(FzAs.same _),litE (m:=6) rfl (And.intro (And.intro (⟨rfl,rfl⟩) (And.intro (⟨rfl,rfl⟩) trivial)) (.inl (rowsE (Y:=List.map Timer.cells p0.Rest) (by simp [subR0,subR1,-List.map_take,-List.map_drop,-List.drop_one,take_map',drop_map',fz_Timer,fl_Timer,fzMap fz_Timer,flMap fl_Timer];done) (appB (b:=24) (hs:=by have q0:=hs.2.2.1;refine ⟨?_,?_⟩;(show List.length _*24≤_);(try simp only [List.length_map,List.length_append,List.length_cons,List.length_nil,List.length_take,List.length_drop]);omega;(try simp only [List.length_map,List.length_append,List.length_cons,List.length_nil,List.length_take,List.length_drop]);omega) ?_))))⟩))))
   exact litE (m:=7) rfl (And.intro (And.intro (⟨rfl,rfl⟩) trivial) (And.intro trivial (And.intro trivial (leafE hown hg))))
 refine .inl (litE (m:=2) rfl (And.intro (And.intro (⟨rfl,rfl⟩) (And.intro (⟨rfl,rfl⟩) (And.intro (⟨rfl,rfl⟩) (And.intro (⟨rfl,rfl⟩) trivial)))) (.inl (⟨_,_,c_spec_l8Lists p0.Near (by exact hs.1),(FzAs.same _),litE (m:=4) rfl (And.intro (And.intro (⟨rfl,rfl⟩) (And.intro (⟨rfl,rfl⟩) (And.intro (⟨rfl,rfl⟩) trivial))) (.inl (⟨_,_,c_spec_l8Lists p0.Far (by exact hs.2.1),(FzAs.same _),litE (m:=6) rfl (And.intro (And.intro (⟨rfl,rfl⟩) (And.intro (⟨rfl,rfl⟩) trivial)) (.inl (rowsE (Y:=List.map Timer.cells p0.Rest) (by simp [subR0,subR1,-List.map_take,-List.map_drop,-List.drop_one,take_map',drop_map',fz_Timer,fl_Timer,fzMap fz_Timer,flMap fl_Timer];done) (appB (b:=24) (hs:=by have q0:=hs.2.2.1;refine ⟨?_,?_⟩;(show List.length _*24≤_);(try simp only [List.length_map,List.length_append,List.length_cons,List.length_nil,List.length_take,List.length_drop]);omega;(try simp only [List.length_map,List.length_append,List.length_cons,List.length_nil,List.length_take,List.length_drop]);omega) ?_))))⟩)))⟩))))
 exact litE (m:=7) rfl (And.intro (And.intro (⟨rfl,rfl⟩) trivial) (And.intro trivial (And.intro trivial (leafE hown hg))))
theorem l8Lists_eq (l:List (List Timer)):spec_l8Lists l=l:=by
 unfold spec_l8Lists
 rw [app_flat (b:=spec_l8Lists_b1) (fun a=>[a]) (fun i s a=>by unfold spec_l8Lists_b1;simp),List.nil_append]
 show l.flatMap (fun a=>[a])=l
 induction l with
 | nil=>rfl
 | cons a l ih=>rw [List.flatMap_cons,ih];rfl
theorem l8Copy_eq (w:Wheel):spec_l8Copy w=w:=by cases w;simp [spec_l8Copy,l8Lists_eq]
def spec_l14Items_b1 (i1:Nat) (s1:(List Item)) (a1:Item):Step ((List Item)) (List Item) :=
 (.next (s1++[(Item.mk a1.Stamp (spec_l3Copy a1.S))]))
def spec_l14Items (p0:(List Item)):(List Item) :=
 (Fin.get (fun s1=>s1) (loopL spec_l14Items_b1 0 ([]:List Item) p0))
theorem c_spec_l14Items (p0:(List Item)) (hs:bdS Item.bd 16777216 p0):FnOk prog 70 [.one (.s false 7 (List.map (Item.cells false) p0))] ⟨.one (.s true 7 (List.map (Item.cells true) (spec_l14Items p0))),[],[],false⟩:=by
 refine FnOk.intro (E:=env) envOk wide func70 rfl (by kernel_rfl) rfl rfl ?_
 have hg:=spec_l14Items.eq_1 p0
 have hown:∀g:(List Item),AV.Own (AV.one (.s true 7 (List.map (Item.cells true) g))):=fun g=>ownSl own_Item _
 refine seqE (seqE (.inl (litE (m:=0) rfl (seqE (seqE (loopLI (fun (i:Nat) s=>s.length≤i) hg (Nat.le_refl _) [0] (fun x1=>[(3,.one (.n 0 [] 1 0 (x1.s).length)),(4,.one (.v (.int .i64 ((x1.i:Nat):Int))))]) (fun x1=>[.new ⟨7,false,List.map (Item.cells true) x1.s,0⟩]) [some 0] (⟨rfl,⟨⟨rfl,rfl,rfl,rfl,by (rfl)⟩,rfl,rfl,trivial⟩,⟨⟨rfl,rfl,rfl⟩,trivial⟩,trivial⟩) (fun x1=>?_)))))))
 have hI1:=x1.hI
 try dsimp only at hI1
 refine seqE (seqE (lenM fun hN1=>tstL (fun hi1=>have hb1:=(x1.bdy hi1).trans (spec_l14Items_b1.eq_1 ..);have hw1:=wrap_succ hi1 (by assumption);seqE (.inr (.inl ⟨(.seg 14 14 (.q 0 (.q 1 (.q 2 (.q 3 (.q 4 (.q 5 (.q 6 (.q 7 (.q 8 (.q 9 (.q 10 (.o 11 (.o 12 (.o 13 .leaf)))))))))))))) (.tail 14)),by kernel_rfl,idxAt hi1 (idxAt hi1 (⟨_,_,c_spec_l3Copy (p0[x1.i]'hi1).S (by exact (hs.get hi1).1),(FzAs.same _),litE (m:=2) rfl (.inl (litE (m:=3) rfl (.inl (rowsE (Y:=List.map (Item.cells true) (x1.s++[(Item.mk (p0[x1.i]'hi1).Stamp (spec_l3Copy (p0[x1.i]'hi1).S))])) (by simp [subR0,subR1,-List.map_take,-List.map_drop,-List.drop_one,take_map',drop_map',fz_Item,fzMap fz_Item,shMap sh_Item];rfl) (appB (b:=72) (hs:=by have q0:=hs.1;have q1:=hI1;have q2:=hi1;have q3:=hs.get hi1;(try have q4:=q3.1);refine ⟨?_,?_⟩;(show List.length _*72≤_);(try simp only [List.length_map,List.length_append,List.length_cons,List.length_nil,List.length_take,List.length_drop]);omega;(try simp only [List.length_map,List.length_append,List.length_cons,List.length_nil,List.length_take,List.length_drop]);omega) ?_)))))⟩))⟩))) (fun hi1=>have hg:=finE hg (x1.fin hi1);seqE (leafE hown hg))))
 exact litE (m:=4) rfl (x1.goE hi1 hb1 (by have q1:=hI1;(try simp only [List.length_map,List.length_append,List.length_cons,List.length_nil,List.length_take,List.length_drop]);omega) [some 4] ⟨rfl,⟨⟨rfl,rfl,rfl,rfl,by ((simp [LstSt.init,LstSt.step,LstInv.init,CntSt.init,CntSt.step,CntInv.init,WhlSt.init,WhlSt.step];done))⟩,(eqInt hw1),rfl,trivial⟩,⟨⟨rfl,rfl,rfl⟩,trivial⟩,trivial⟩)
theorem spec_l14Items_eq (l:List Item):spec_l14Items l=l:=by
 unfold spec_l14Items
 rw [app_flat (b:=spec_l14Items_b1) (fun a=>[a]) (fun i s a=>by unfold spec_l14Items_b1;rfl),List.nil_append]
 show l.flatMap (fun a=>[a])=l
 induction l with
 | nil=>rfl
 | cons a l ih=>rw [List.flatMap_cons,ih];rfl
def spec_l14Copy (p0:Task):Task :=
 { p0 with S:=(spec_l3Copy p0.S),Hand:=(spec_l14Items p0.Hand) }
theorem c_spec_l14Copy (p0:Task) (hs:Task.bd 16777216 p0):FnOk prog 71 [.agg ((Task.cells false) p0)] ⟨.agg ((Task.cells true) (spec_l14Copy p0)),[],[],false⟩:=by
 refine FnOk.intro (E:=env) envOk wide func71 rfl (by kernel_rfl) rfl rfl ?_
 have hg:=spec_l14Copy.eq_1 p0
 have hown:∀g:Task,AV.Own (AV.agg ((Task.cells true) g)):=fun g=>own_Task _
 exact seqE (litE (m:=0) rfl (litE (m:=1) rfl (seqE (litE (m:=2) rfl (seqE (.inl (⟨_,_,c_spec_l3Copy p0.S (by exact hs.1.1),(FzAs.same _),litE (m:=4) rfl (seqE (.inl (⟨_,_,c_spec_l14Items p0.Hand (by exact hs.2),(FzAs.same _),litE (m:=6) rfl (seqE (leafE hown hg))⟩)))⟩)))))))
theorem spec_l14Copy_eq (x:Task):spec_l14Copy x=x:=by cases x;simp [spec_l14Copy,spec_l3Copy_eq,spec_l14Items_eq]
def spec_l15Copy (p0:Deed):Deed :=
 { p0 with S:=(spec_l3Copy p0.S) }
theorem c_spec_l15Copy (p0:Deed) (hs:Deed.bd 16777216 p0):FnOk prog 90 [.agg ((Deed.cells false) p0)] ⟨.agg ((Deed.cells true) (spec_l15Copy p0)),[],[],false⟩:=by
 refine FnOk.intro (E:=env) envOk wide func90 rfl (by kernel_rfl) rfl rfl ?_
 have hg:=spec_l15Copy.eq_1 p0
 have hown:∀g:Deed,AV.Own (AV.agg ((Deed.cells true) g)):=fun g=>own_Deed _
 exact seqE (litE (m:=0) rfl (litE (m:=1) rfl (seqE (.inl (⟨_,_,c_spec_l3Copy p0.S (by exact hs.1),(FzAs.same _),litE (m:=3) rfl (seqE (leafE hown hg))⟩)))))
def spec_l15All_b1 (i1:Nat) (s1:(List Deed)) (a1:Deed):Step ((List Deed)) (List Deed) :=
 (.next (s1++[(spec_l15Copy a1)]))
def spec_l15All (p0:(List Deed)):(List Deed) :=
 (Fin.get (fun s1=>s1) (loopL spec_l15All_b1 0 ([]:List Deed) p0))
theorem c_spec_l15All (p0:(List Deed)) (hs:bdS Deed.bd 16777216 p0):FnOk prog 72 [.one (.s false 20 (List.map (Deed.cells false) p0))] ⟨.one (.s true 20 (List.map (Deed.cells true) (spec_l15All p0))),[],[],false⟩:=by
 refine FnOk.intro (E:=env) envOk wide func72 rfl (by kernel_rfl) rfl rfl ?_
 have hg:=spec_l15All.eq_1 p0
 have hown:∀g:(List Deed),AV.Own (AV.one (.s true 20 (List.map (Deed.cells true) g))):=fun g=>ownSl own_Deed _
 refine seqE (seqE (.inl (litE (m:=0) rfl (seqE (seqE (loopLI (fun (i:Nat) s=>s.length≤i) hg (Nat.le_refl _) [0] (fun x1=>[(3,.one (.n 0 [] 1 0 (x1.s).length)),(4,.one (.v (.int .i64 ((x1.i:Nat):Int))))]) (fun x1=>[.new ⟨20,false,List.map (Deed.cells true) x1.s,0⟩]) [some 0] (⟨rfl,⟨⟨rfl,rfl,rfl,rfl,by (rfl)⟩,rfl,rfl,trivial⟩,⟨⟨rfl,rfl,rfl⟩,trivial⟩,trivial⟩) (fun x1=>?_)))))))
 have hI1:=x1.hI
 try dsimp only at hI1
 refine seqE (seqE (lenM fun hN1=>tstL (fun hi1=>have hb1:=(x1.bdy hi1).trans (spec_l15All_b1.eq_1 ..);have hw1:=wrap_succ hi1 (by assumption);seqE (seqE (idxAt hi1 (.inl (⟨_,_,c_spec_l15Copy (p0[x1.i]'hi1) (by exact hs.get hi1),(FzAs.same _),litE (m:=2) rfl (litE (m:=3) rfl (.inl (litE (m:=4) rfl (.inl (rowsE (Y:=List.map (Deed.cells true) (x1.s++[(spec_l15Copy (p0[x1.i]'hi1))])) (by simp [subR0,subR1,-List.map_take,-List.map_drop,-List.drop_one,take_map',drop_map',fz_Deed,fzMap fz_Deed,shMap sh_Deed];rfl) (appB (b:=168) (hs:=by have q0:=hs.1;have q1:=hI1;have q2:=hi1;have q3:=hs.get hi1;(try have q4:=q3.1);refine ⟨?_,?_⟩;(show List.length _*168≤_);(try simp only [List.length_map,List.length_append,List.length_cons,List.length_nil,List.length_take,List.length_drop]);omega;(try simp only [List.length_map,List.length_append,List.length_cons,List.length_nil,List.length_take,List.length_drop]);omega) ?_))))))⟩))))) (fun hi1=>have hg:=finE hg (x1.fin hi1);seqE (leafE hown hg))))
 exact litE (m:=5) rfl (x1.goE hi1 hb1 (by have q1:=hI1;(try simp only [List.length_map,List.length_append,List.length_cons,List.length_nil,List.length_take,List.length_drop]);omega) [some 5] ⟨rfl,⟨⟨rfl,rfl,rfl,rfl,by ((simp [LstSt.init,LstSt.step,LstInv.init,CntSt.init,CntSt.step,CntInv.init,WhlSt.init,WhlSt.step];done))⟩,(eqInt hw1),rfl,trivial⟩,⟨⟨rfl,rfl,rfl⟩,trivial⟩,trivial⟩)
theorem spec_l15All_eq (l:List Deed):spec_l15All l=l:=by
 unfold spec_l15All
 rw [app_flat (b:=spec_l15All_b1) (fun a=>[a]) (fun i s a=>by unfold spec_l15All_b1;rfl),List.nil_append]
 show l.flatMap (fun a=>[a])=l
 induction l with
 | nil=>rfl
 | cons a l ih=>rw [List.flatMap_cons,ih];rfl
def spec_l16Copy_b1 (i1:Nat) (s1:(List Task)) (a1:Task):Step ((List Task)) World :=
 (.next (s1++[(spec_l14Copy a1)]))
def spec_l16Copy (p0:World):World :=
 (Fin.get (fun s1=>{ p0 with C:=(spec_l13Copy p0.C),St:=(spec_l11Copy p0.St),W:=(spec_l8Copy p0.W),Queue:=(spec_l14Items p0.Queue),Out:=(spec_l14Items p0.Out),Tasks:=s1,Deeds:=(spec_l15All p0.Deeds) }) (loopL spec_l16Copy_b1 0 ([]:List Task) p0.Tasks))
theorem c_spec_l16Copy (p0:World) (hs:World.bd 16777216 p0):FnOk prog 49 [.agg ((World.cells false) p0)] ⟨.agg ((World.cells true) (spec_l16Copy p0)),[],[],false⟩:=by
 refine FnOk.intro (E:=env) envOk wide func49 rfl (by kernel_rfl) rfl rfl ?_
 have hg:=spec_l16Copy.eq_1 p0
 have hown:∀g:World,AV.Own (AV.agg ((World.cells true) g)):=fun g=>own_World _
 refine seqE (litE (m:=0) rfl (litE (m:=1) rfl (seqE (litE (m:=2) rfl (seqE (.inl (⟨_,_,c_spec_l13Copy p0.C (by exact hs.1),(FzAs.same _),litE (m:=4) rfl (litE (m:=5) rfl (seqE (seqE (.inl (⟨_,_,c_spec_l11Copy p0.St (by exact hs.2.1),(FzAs.same _),litE (m:=7) rfl (seqE (.inl (litE (m:=8) rfl (.inl (rowsE (Y:=List.map Verdict.cells p0.Cache) (by simp [subR0,subR1,-List.map_take,-List.map_drop,-List.drop_one,take_map',drop_map',fz_Verdict,fl_Verdict,fzMap fz_Verdict,flMap fl_Verdict];done) (appB (b:=24) (hs:=by have q0:=hs.2.2.1.1;have q3:=hs.2.2.2.2.1.1;(try have q1:=hI1);(try have q2:=hi1);have q4:=hs.2.2.2.2.2.2.2.1.1;refine ⟨?_,?_⟩;(show List.length _*24≤_);(try simp only [List.length_map,List.length_append,List.length_cons,List.length_nil,List.length_take,List.length_drop]);omega;(try simp only [List.length_map,List.length_append,List.length_cons,List.length_nil,List.length_take,List.length_drop]);omega) ?_))))))⟩)))))⟩)))))))
 refine litE (m:=9) rfl (seqE (.inl (⟨_,_,c_spec_l8Copy p0.W (by exact hs.2.2.2.1),(FzAs.same _),litE (m:=11) rfl (litE (m:=14) rfl (seqE (seqE (.inl (litE (m:=15) rfl (.inl (rowsE (Y:=List.map Timer.cells p0.Due) (by simp [subR0,subR1,-List.map_take,-List.map_drop,-List.drop_one,take_map',drop_map',fz_Timer,fl_Timer,fzMap fz_Timer,flMap fl_Timer];done) (appB (b:=24) (hs:=by have q0:=hs.2.2.1.1;have q3:=hs.2.2.2.2.1.1;(try have q1:=hI1);(try have q2:=hi1);have q4:=hs.2.2.2.2.2.2.2.1.1;refine ⟨?_,?_⟩;(show List.length _*24≤_);(try simp only [List.length_map,List.length_append,List.length_cons,List.length_nil,List.length_take,List.length_drop]);omega;(try simp only [List.length_map,List.length_append,List.length_cons,List.length_nil,List.length_take,List.length_drop]);omega) ?_))))))))⟩)))
 refine litE (m:=16) rfl (seqE (.inl (⟨_,_,c_spec_l14Items p0.Queue (by exact hs.2.2.2.2.2.1),(FzAs.same _),litE (m:=18) rfl (seqE (.inl (⟨_,_,c_spec_l14Items p0.Out (by exact hs.2.2.2.2.2.2.1),(FzAs.same _),litE (m:=20) rfl (seqE (.inl (litE (m:=21) rfl (seqE (seqE (loopLI (fun (i:Nat) s=>s.length≤i) hg (Nat.le_refl _) [1,2,3] (fun x1=>[(6,.one (.v (.int .i64 ((x1.i:Nat):Int))))]) (fun x1=>[.keep 0,.keep 1,.new ⟨32,true,[[.v (.int .i64 (spec_l13Copy p0.C).Stripes),.v (.int .i64 (spec_l13Copy p0.C).Wait),.v (.int .i64 (spec_l13Copy p0.C).Budget),.v (.int .i64 (spec_l13Copy p0.C).Cache),.v (.int .i64 (spec_l13Copy p0.C).Queue),.v (.int .i64 (spec_l13Copy p0.C).Rate),.v (.int .i64 (spec_l13Copy p0.C).Burst),.v (.int .i64 (spec_l13Copy p0.C).Rule.Kind),.v (.int .i64 (spec_l13Copy p0.C).Rule.N),.v (.string (spec_l13Copy p0.C).Rule.Key),.v (.string (spec_l13Copy p0.C).Rule.Text),.n 4 [] 1 0 ((spec_l13Copy p0.C).Rule.L).length,.v (.int .i64 p0.Time),.v (.bool p0.Shut),.n 7 [] 1 0 ((spec_l11Copy p0.St)).length,.v (.int .i64 p0.RuleHeld),.v (.int .i64 p0.B.Rate),.v (.int .i64 p0.B.Burst),.v (.int .i64 p0.B.Tokens),.v (.int .i64 p0.B.At),.n 9 [] 1 0 (p0.Cache).length,.v (.int .i64 p0.Used),.v (.int .i64 (spec_l8Copy p0.W).Now),.n 11 [] 1 0 ((spec_l8Copy p0.W).Near).length,.n 12 [] 1 0 ((spec_l8Copy p0.W).Far).length,.n 13 [] 1 0 ((spec_l8Copy p0.W).Rest).length,.n 16 [] 1 0 (p0.Due).length,.n 18 [] 1 0 ((spec_l14Items p0.Queue)).length,.n 20 [] 1 0 ((spec_l14Items p0.Out)).length,.n 21 [] 1 0 (x1.s).length,.s false 20 (List.map (Deed.cells false) p0.Deeds),.v (.int .i64 p0.Next)]],0⟩,.dead,.keep 4,.dead,.dead,.keep 7,.dead,.keep 9,.dead,.keep 11,.keep 12,.keep 13,.dead,.dead,.keep 16,.dead,.keep 18,.dead,.keep 20,.new ⟨12,false,List.map (Task.cells true) x1.s,0⟩]) [some 0,some 1,some 2,none,some 4,none,none,some 7,none,some 9,none,some 11,some 12,some 13,none,none,some 16,none,some 18,none,some 20,some 21] (⟨rfl,(by repeat' constructor),⟨(by repeat' constructor),(by repeat' constructor),⟨rfl,rfl,⟨rfl,rfl,rfl,rfl,rfl,rfl,rfl,rfl,rfl,rfl,rfl,⟨rfl,rfl,rfl,rfl,by ((simp;done))⟩,rfl,rfl,⟨rfl,rfl,rfl,rfl,by ((simp;done))⟩,rfl,rfl,rfl,rfl,rfl,⟨rfl,rfl,rfl,rfl,by ((simp;done))⟩,rfl,rfl,⟨rfl,rfl,rfl,rfl,by ((simp;done))⟩,⟨rfl,rfl,rfl,rfl,by ((simp;done))⟩,⟨rfl,rfl,rfl,rfl,by ((simp;done))⟩,⟨rfl,rfl,rfl,rfl,by ((simp;done))⟩,⟨rfl,rfl,rfl,rfl,by ((simp;done))⟩,⟨rfl,rfl,rfl,rfl,by ((simp;done))⟩,⟨rfl,rfl,rfl,rfl,by (rfl)⟩,rfl,rfl,trivial⟩⟩,⟨rfl,rfl,rfl⟩,⟨rfl,rfl,rfl⟩,⟨rfl,rfl,rfl⟩,⟨rfl,rfl,rfl⟩,⟨rfl,rfl,rfl⟩,⟨rfl,rfl,rfl⟩,⟨rfl,rfl,rfl⟩,⟨rfl,rfl,rfl⟩,⟨rfl,rfl,rfl⟩,⟨rfl,rfl,rfl⟩,trivial⟩,trivial⟩) (fun x1=>?_)))))))⟩)))⟩)))
 have hI1:=x1.hI
 try dsimp only at hI1
 refine seqE (seqE (lenM fun hN1=>tstL (fun hi1=>have hb1:=(x1.bdy hi1).trans (spec_l16Copy_b1.eq_1 ..);have hw1:=wrap_succ hi1 (by assumption);seqE (seqE (idxAt hi1 (.inl (⟨_,_,c_spec_l14Copy (p0.Tasks[x1.i]'hi1) (by exact hs.2.2.2.2.2.2.2.1.get hi1),(FzAs.same _),litE (m:=23) rfl (litE (m:=25) rfl (.inl (litE (m:=26) rfl (.inl (rowsE (Y:=List.map (Task.cells true) (x1.s++[(spec_l14Copy (p0.Tasks[x1.i]'hi1))])) (by simp [subR0,subR1,-List.map_take,-List.map_drop,-List.drop_one,take_map',drop_map',fz_Task,fzMap fz_Task,shMap sh_Task];rfl) (appB (b:=128) (hs:=by have q0:=hs.2.2.1.1;have q3:=hs.2.2.2.2.1.1;(try have q1:=hI1);(try have q2:=hi1);have q4:=hs.2.2.2.2.2.2.2.1.1;refine ⟨?_,?_⟩;(show List.length _*128≤_);(try simp only [List.length_map,List.length_append,List.length_cons,List.length_nil,List.length_take,List.length_drop]);omega;(try simp only [List.length_map,List.length_append,List.length_cons,List.length_nil,List.length_take,List.length_drop]);omega) ?_))))))⟩))))) (fun hi1=>have hg:=finE hg (x1.fin hi1);seqE (.inl (⟨_,_,c_spec_l15All p0.Deeds (by exact hs.2.2.2.2.2.2.2.2),(FzAs.same _),litE (m:=23) rfl (seqE (leafE hown hg))⟩)))))
 exact litE (m:=27) rfl (x1.goE hi1 hb1 (by have q1:=hI1;(try simp only [List.length_map,List.length_append,List.length_cons,List.length_nil,List.length_take,List.length_drop]);omega) [some 0,some 1,some 2,none,some 4,none,none,some 7,none,some 9,none,some 11,some 12,some 13,none,none,some 16,none,some 18,none,some 20,some 27] ⟨rfl,⟨(eqInt hw1),⟨rfl,rfl,rfl,rfl⟩,⟨rfl,rfl,rfl,rfl⟩,⟨rfl,rfl,rfl,rfl⟩,trivial⟩,⟨(by repeat' constructor),(by repeat' constructor),⟨rfl,rfl,⟨rfl,rfl,rfl,rfl,rfl,rfl,rfl,rfl,rfl,rfl,rfl,⟨rfl,rfl,rfl,rfl,by (rfl)⟩,rfl,rfl,⟨rfl,rfl,rfl,rfl,by (rfl)⟩,rfl,rfl,rfl,rfl,rfl,⟨rfl,rfl,rfl,rfl,by (rfl)⟩,rfl,rfl,⟨rfl,rfl,rfl,rfl,by (rfl)⟩,⟨rfl,rfl,rfl,rfl,by (rfl)⟩,⟨rfl,rfl,rfl,rfl,by (rfl)⟩,⟨rfl,rfl,rfl,rfl,by (rfl)⟩,⟨rfl,rfl,rfl,rfl,by (rfl)⟩,⟨rfl,rfl,rfl,rfl,by (rfl)⟩,⟨rfl,rfl,rfl,rfl,by ((simp [LstSt.init,LstSt.step,LstInv.init,CntSt.init,CntSt.step,CntInv.init,WhlSt.init,WhlSt.step];done))⟩,rfl,rfl,trivial⟩⟩,⟨rfl,rfl,rfl⟩,⟨rfl,rfl,rfl⟩,⟨rfl,rfl,rfl⟩,⟨rfl,rfl,rfl⟩,⟨rfl,rfl,rfl⟩,⟨rfl,rfl,rfl⟩,⟨rfl,rfl,rfl⟩,⟨rfl,rfl,rfl⟩,⟨rfl,rfl,rfl⟩,⟨rfl,rfl,rfl⟩,trivial⟩,trivial⟩)
theorem l16Copy_eq (w:World):spec_l16Copy w=w:=by
 unfold spec_l16Copy
 rw [app_flat (b:=spec_l16Copy_b1) (fun a=>[a]) (fun i s a=>by unfold spec_l16Copy_b1;rw [spec_l14Copy_eq]),List.nil_append,Fin.get_fin,spec_l13Copy_eq,spec_l11Copy_eq,l8Copy_eq,spec_l14Items_eq,spec_l14Items_eq,spec_l15All_eq]
 have e:w.Tasks.flatMap (fun a=>[a])=w.Tasks:=by
  induction w.Tasks with
  | nil=>rfl
  | cons a l ih=>rw [List.flatMap_cons,ih];rfl
 rw [e]
theorem WI.world {n m:Nat} {w:World} (h:WI n w) (hm:n≤m) (h2:1000≤m):World.bd m w :=
 ⟨Conf_mono h2 h.c,bdS.mono h.s hm (Stripe_mono hm),bdS.mono h.v hm (fun _ _=>trivial),Wheel_mono (by omega) h.wb,bdS.mono h.d hm (fun _ _=>trivial),bdS.mono h.q hm (Item_mono hm),bdS.mono h.o hm (Item_mono hm),bdS.mono h.tb hm (Task_mono hm),bdS.mono h.db hm (Deed_mono hm)⟩
def spec_l1In (p0:Int) (p1:Int) (p2:Int):Bool :=
 (bif (decide (p0≥p1)) then (decide (p0≤p2)) else false)
theorem c_spec_l1In (p0:Int) (p1:Int) (p2:Int):FnOk prog 41 [.one (.v (.int .i64 p0)),.one (.v (.int .i64 p1)),.one (.v (.int .i64 p2))] ⟨.one (.v (.bool (spec_l1In p0 p1 p2))),[],[],false⟩:=by
 refine FnOk.intro (E:=env) envOk wide func41 rfl (by kernel_rfl) rfl rfl ?_
 have hg:=spec_l1In.eq_1 p0 p1 p2
 have hown:∀g:Bool,AV.Own (AV.one (.v (.bool g))):=fun g=>.v _
 exact seqE (seqE (brD hg (fun hg h1=>leafE hown hg) (fun hg h1=>leafE hown hg)))
theorem l1In_iff {n a b:Int}:spec_l1In n a b=true↔a≤n∧n≤b:=by unfold spec_l1In;simp [Bool.cond_eq_ite]
def spec_PolCount_b1 (r0:(Pol→Int)) (i1:Nat) (s1:Int) (a1:Pol):Step (Int) Int :=
 (.next (IntKind.i64.wrap (s1+(r0 a1))))
def spec_PolCountR:Nat→Pol→Int
 | 0,_=>default
 | n+1,p0=>(Fin.get (fun s1=>s1) (loopL (spec_PolCount_b1 (spec_PolCountR n)) 0 1 p0.L))
theorem cR_spec_PolCount:∀(n:Nat) (p0:Pol),Pol.dep p0 < n→FnOk prog 100 [.agg (Pol.opn false p0)] ⟨.one (.v (.int .i64 (spec_PolCountR n p0))),[],[],false⟩:=by
 intro n
 induction n with
 | zero=>intro p0 hd0;omega
 | succ n ih =>
   intro p0 hd0
   refine FnOk.intro (E:=env) envOk wide func100 rfl (by kernel_rfl) rfl rfl ?_
   have hg:spec_PolCountR (n+1) p0=_:=spec_PolCountR.eq_2 ..
   have hown:∀g:Int,AV.Own (AV.one (.v (.int .i64 g))):=fun g=>.v _
   refine seqE ?_
   refine litE (m:=0) rfl ?_
   refine seqE ?_
   refine seqE ?_
   refine seqE ?_
   refine loopLE hg [1] (fun x1=>[(3,.one (.v (.int .i64 x1.s))),(4,.one (.v (.int .i64 ((x1.i:Nat):Int))))]) (fun x1=>[.keep 0]) [some 0] ?_ (fun x1=>?_)
   · exact (by repeat' constructor)
   refine seqE ?_
   refine seqE ?_
   refine lenM fun hN1=>?_
   refine tstL (fun hi1=>?_) (fun hi1=>?_)
   · have hb1:=(x1.bdy hi1).trans (spec_PolCount_b1.eq_1 ..)
     have hw1:=wrap_succ hi1 (by assumption)
     refine seqE ?_
     refine idxAtR (Pol.cells_eq false) hi1 ?_
     refine .inl (⟨_,_,ih (p0.L[x1.i]'hi1) (by exact Nat.lt_of_lt_of_le (Pol.dep_lt (List.getElem_mem _)) (Nat.le_of_lt_succ hd0)),(FzAs.same _),?_⟩)
     refine litE (m:=2) rfl ?_
     exact x1.goE hi1 hb1 [some 0] ⟨rfl,⟨rfl,(eqInt hw1),⟨rfl,rfl,rfl,rfl⟩,trivial⟩,(by repeat' constructor),trivial⟩
   have hg:=finE hg (x1.fin hi1)
   refine seqE ?_
   exact leafE hown hg
def spec_PolCount (p0:Pol):Int:=spec_PolCountR (Pol.dep p0+1) p0
theorem c_spec_PolCount (p0:Pol):FnOk prog 100 [.agg (Pol.opn false p0)] ⟨.one (.v (.int .i64 (spec_PolCount p0))),[],[],false⟩:=cR_spec_PolCount _ p0 (Nat.lt_succ_self _)
def spec_NameOk_b1 (p0:ByteArray) (i1:Nat) (s1:Unit):Step (Unit) Bool :=
 (bif (decide ((((p0).data.getD i1 0).toNat:Int) < 97)) then (.done false) else (bif (decide ((((p0).data.getD i1 0).toNat:Int) > 122)) then (.done false) else (.next ())))
def spec_NameOk (p0:ByteArray):Bool :=
 (Fin.get (fun s1=>(spec_l1In (((p0).size:Nat):Int) 1 8)) (loopC (spec_NameOk_b1 p0) 0 () (p0).size))
theorem c_spec_NameOk (p0:ByteArray):FnOk prog 82 [.one (.v (.string p0))] ⟨.one (.v (.bool (spec_NameOk p0))),[],[],false⟩:=by
 refine FnOk.intro (E:=env) envOk wide func82 rfl (by kernel_rfl) rfl rfl ?_
 have hg:=spec_NameOk.eq_1 p0
 have hown:∀g:Bool,AV.Own (AV.one (.v (.bool g))):=fun g=>.v _
 exact seqE (seqE (seqE (loopCE hg [0] (fun x1=>[(3,.one (.v (.int .i64 ((x1.i:Nat):Int))))]) (fun x1=>[]) [] ((by repeat' constructor)) (fun x1=>seqE (seqE (lenS fun hN1=>tstL (fun hi1=>have hb1:=(x1.bdy hi1).trans (spec_NameOk_b1.eq_1 ..);have hw1:=wrap_succ hi1 (by assumption);seqE (seqE (andE (by (omega)) (brDF hb1 (fun hb1 h2=>andE (by (omega)) (brD hb1 (fun hb1 h3=>seqE (have hg:=donE hg (x1.outD hi1 hb1);leafE hown hg)) (fun hb1 h3=>x1.goE hi1 hb1 [] ⟨rfl,⟨(eqInt hw1),rfl,trivial⟩,trivial,trivial⟩))) (fun hb1 h2=>seqE (have hg:=donE hg (x1.outD hi1 hb1);leafE hown hg)))))) (fun hi1=>have hg:=finE hg (x1.fin hi1);seqE (lenS fun hN4=>.inl (⟨_,_,c_spec_l1In (((p0).size:Nat):Int) 1 8,(FzAs.same _),litE (m:=1) rfl (leafE hown hg)⟩)))))))))
theorem main_NameOk (s:ByteArray):spec_NameOk s=impl_NameOk s:=rfl
def spec_PlainOk_b1 (p0:ByteArray) (i1:Nat) (s1:Unit):Step (Unit) Bool :=
 (bif (decide ((((p0).data.getD i1 0).toNat:Int) < 32)) then (.done false) else (bif (decide ((((p0).data.getD i1 0).toNat:Int) > 126)) then (.done false) else (bif ((((p0).data.getD i1 0).toNat:Int)==34) then (.done false) else (.next ()))))
def spec_PlainOk (p0:ByteArray):Bool :=
 (Fin.get (fun s1=>(decide ((((p0).size:Nat):Int)≤20))) (loopC (spec_PlainOk_b1 p0) 0 () (p0).size))
theorem c_spec_PlainOk (p0:ByteArray):FnOk prog 83 [.one (.v (.string p0))] ⟨.one (.v (.bool (spec_PlainOk p0))),[],[],false⟩:=by
 refine FnOk.intro (E:=env) envOk wide func83 rfl (by kernel_rfl) rfl rfl ?_
 have hg:=spec_PlainOk.eq_1 p0
 have hown:∀g:Bool,AV.Own (AV.one (.v (.bool g))):=fun g=>.v _
 exact seqE (seqE (seqE (loopCE hg [0] (fun x1=>[(3,.one (.v (.int .i64 ((x1.i:Nat):Int))))]) (fun x1=>[]) [] ((by repeat' constructor)) (fun x1=>seqE (seqE (lenS fun hN1=>tstL (fun hi1=>have hb1:=(x1.bdy hi1).trans (spec_PlainOk_b1.eq_1 ..);have hw1:=wrap_succ hi1 (by assumption);seqE (seqE (andE (by (omega)) (brDF hb1 (fun hb1 h2=>andE (by (omega)) (brDF hb1 (fun hb1 h3=>andE (by (omega)) (brQ hb1 (fun hb1 h4=>seqE (have hg:=donE hg (x1.outD hi1 hb1);leafE hown hg)) (fun hb1 h4=>x1.goE hi1 hb1 [] ⟨rfl,⟨(eqInt hw1),rfl,trivial⟩,trivial,trivial⟩))) (fun hb1 h3=>seqE (have hg:=donE hg (x1.outD hi1 hb1);leafE hown hg)))) (fun hb1 h2=>seqE (have hg:=donE hg (x1.outD hi1 hb1);leafE hown hg)))))) (fun hi1=>have hg:=finE hg (x1.fin hi1);seqE (lenS fun hN5=>leafE hown hg))))))))
theorem main_PlainOk (s:ByteArray):spec_PlainOk s=impl_PlainOk s:=by
 have e:spec_PlainOk_b1 s=impl_PlainOk_b1 s:=by
  funext i u
  unfold spec_PlainOk_b1 impl_PlainOk_b1 impl_within
  have h:=(s.data.getD i 0).toNat_lt
  generalize (s.data.getD i 0).toNat=n at h ⊢
  rw [Go.Ev.wrap_small (n:=(n:Int)) (by omega) (by omega)]
  by_cases h1:(n:Int) < 32
  · have h2:¬(n:Int)≥32:=by omega
    simp [h1,h2]
  · have h2:(n:Int)≥32:=by omega
    by_cases h3:(n:Int) > 126
    · have h4:¬(n:Int)≤126:=by omega
      simp [h1,h2,h3,h4]
    · have h4:(n:Int)≤126:=by omega
      simp [h1,h2,h3,h4]
 unfold spec_PlainOk impl_PlainOk
 rw [e]
def spec_l5One_j1 (p0:Pol):Step (Bool) Bool :=
 (bif (p0.Kind==1) then (.next (p0.Kind==1)) else (bif (p0.Kind==2) then (.next (p0.Kind==2)) else (.next (p0.Kind==6))))
def spec_l5One_j2 (p0:Pol):Step (Bool) Bool :=
 (bif (p0.Kind==7) then (.next (p0.Kind==7)) else (.next (p0.Kind==8)))
def spec_l5One (p0:Pol):Bool :=
 (Step.get (fun s1=>(bif s1 then (bif (p0.N==0) then (bif (decide (p0.Key=(ByteArray.mk #[]))) then (bif (decide (p0.Text=(ByteArray.mk #[]))) then ((((p0.L).length:Nat):Int)==0) else false) else false) else false) else (bif (p0.Kind==3) then (bif (spec_l1In p0.N 0 2147483647) then (bif (decide (p0.Key=(ByteArray.mk #[]))) then (bif (decide (p0.Text=(ByteArray.mk #[]))) then ((((p0.L).length:Nat):Int)==0) else false) else false) else false) else (bif (p0.Kind==4) then (bif (p0.N==0) then (bif (spec_NameOk p0.Key) then (bif (spec_PlainOk p0.Text) then ((((p0.L).length:Nat):Int)==0) else false) else false) else false) else (bif (p0.Kind==5) then (bif (spec_l1In p0.N 0 2147483647) then (bif (spec_NameOk p0.Key) then (bif (decide (p0.Text=(ByteArray.mk #[]))) then ((((p0.L).length:Nat):Int)==0) else false) else false) else false) else (Step.get (fun s2=>(bif s2 then (bif (p0.N==0) then (bif (decide (p0.Key=(ByteArray.mk #[]))) then (bif (decide (p0.Text=(ByteArray.mk #[]))) then (spec_l1In (((p0.L).length:Nat):Int) 1 4) else false) else false) else false) else (bif (p0.Kind==9) then (bif (p0.N==0) then (bif (decide (p0.Key=(ByteArray.mk #[]))) then (bif (decide (p0.Text=(ByteArray.mk #[]))) then ((((p0.L).length:Nat):Int)==1) else false) else false) else false) else false))) (spec_l5One_j2 p0))))))) (spec_l5One_j1 p0))
theorem c_spec_l5One (p0:Pol):FnOk prog 116 [.agg (Pol.opn false p0)] ⟨.one (.v (.bool (spec_l5One p0))),[],[],false⟩:=by
 refine FnOk.intro (E:=env) envOk wide func116 rfl (by kernel_rfl) rfl rfl ?_
 have hg:=spec_l5One.eq_1 p0
 have hown:∀g:Bool,AV.Own (AV.one (.v (.bool g))):=fun g=>.v _
 exact seqE (litE (m:=0) rfl (seqE (seqE (joinE hg [1,4] (fun x1=>[(5,.one (.v (.bool x1.s)))]) (fun x1=>[.keep 0]) (fun hb1=>have hb1:=hb1.trans (spec_l5One_j1.eq_1 ..);seqE (brQ hb1 (fun hb1 h1=>.inl ⟨⟨_,hb1⟩,[some 0],(by repeat' constructor)⟩) (fun hb1 h1=>seqE (brQ hb1 (fun hb1 h2=>.inl ⟨⟨_,hb1⟩,[some 0],(by repeat' constructor)⟩) (fun hb1 h2=>.inl ⟨⟨_,hb1⟩,[some 0],(by repeat' constructor)⟩))))) (fun x1 hg=>brE hg (fun hg h3=>seqE (brQ hg (fun hg h4=>brD hg (fun hg h5=>brD hg (fun hg h6=>lenM fun hN7=>leafE hown hg) (fun hg h6=>leafE hown hg)) (fun hg h5=>leafE hown hg)) (fun hg h4=>leafE hown hg))) (fun hg h3=>seqE (brQ hg (fun hg h8=>seqE (.inl (⟨_,_,c_spec_l1In p0.N 0 2147483647,(FzAs.same _),litE (m:=2) rfl (brE hg (fun hg h9=>brD hg (fun hg h10=>brD hg (fun hg h11=>lenM fun hN12=>leafE hown hg) (fun hg h11=>leafE hown hg)) (fun hg h10=>leafE hown hg)) (fun hg h9=>leafE hown hg))⟩))) (fun hg h8=>seqE (brQ hg (fun hg h13=>seqE (brQ hg (fun hg h14=>.inl (⟨_,_,c_spec_NameOk p0.Key,(FzAs.same _),litE (m:=2) rfl (brE hg (fun hg h15=>.inl (⟨_,_,c_spec_PlainOk p0.Text,(FzAs.same _),litE (m:=3) rfl (brE hg (fun hg h16=>lenM fun hN17=>leafE hown hg) (fun hg h16=>leafE hown hg))⟩)) (fun hg h15=>leafE hown hg))⟩)) (fun hg h14=>leafE hown hg))) (fun hg h13=>seqE (brQ hg (fun hg h18=>seqE (.inl (⟨_,_,c_spec_l1In p0.N 0 2147483647,(FzAs.same _),litE (m:=2) rfl (brE hg (fun hg h19=>.inl (⟨_,_,c_spec_NameOk p0.Key,(FzAs.same _),litE (m:=3) rfl (brE hg (fun hg h20=>brD hg (fun hg h21=>lenM fun hN22=>leafE hown hg) (fun hg h21=>leafE hown hg)) (fun hg h20=>leafE hown hg))⟩)) (fun hg h19=>leafE hown hg))⟩))) (fun hg h18=>joinE hg [1] (fun x2=>[(91,.one (.v (.bool x2.s)))]) (fun x2=>[.keep 0]) (fun hb2=>have hb2:=hb2.trans (spec_l5One_j2.eq_1 ..);seqE (brQ hb2 (fun hb2 h23=>.inl ⟨⟨_,hb2⟩,[some 0],(by repeat' constructor)⟩) (fun hb2 h23=>.inl ⟨⟨_,hb2⟩,[some 0],(by repeat' constructor)⟩))) (fun x2 hg=>brE hg (fun hg h24=>seqE (brQ hg (fun hg h25=>brD hg (fun hg h26=>brD hg (fun hg h27=>lenM fun hN28=>.inl (⟨_,_,c_spec_l1In (((p0.L).length:Nat):Int) 1 4,(FzAs.same _),litE (m:=2) rfl (leafE hown hg)⟩)) (fun hg h27=>leafE hown hg)) (fun hg h26=>leafE hown hg)) (fun hg h25=>leafE hown hg))) (fun hg h24=>seqE (brQ hg (fun hg h29=>brQ hg (fun hg h30=>brD hg (fun hg h31=>brD hg (fun hg h32=>lenM fun hN33=>leafE hown hg) (fun hg h32=>leafE hown hg)) (fun hg h31=>leafE hown hg)) (fun hg h30=>leafE hown hg)) (fun hg h29=>leafE hown hg))))))))))))))))
def PolD:Nat→Pol→Prop
 | 0,_=>False
 | d+1,p=>spec_l5One p=true∧p.L.length≤2∧∀q∈p.L,PolD d q
theorem polD_bd:∀(d:Nat) (p:Pol),PolD d p→Pol.bd 2 p
 | 0,_,h=>h.elim
 | d+1,p,h=>Pol.bd_eq.2 ⟨trivial,trivial,h.2.1,fun q hq=>polD_bd d q (h.2.2 q hq)⟩
theorem two {α:Type} {l:List α} (h:l.length≤2):l=[]∨(∃a,l=[a])∨∃a b,l=[a,b]:=by
 match l,h with
 | [],_=>exact .inl rfl
 | [a],_=>exact .inr (.inl ⟨a,rfl⟩)
 | [a,b],_=>exact .inr (.inr ⟨a,b,rfl⟩)
 | _ :: _ :: _ :: _,h=>exact absurd h (by simp only [List.length_cons];omega)
theorem polD_count:∀(d n:Nat) (p:Pol),d≤3→PolD d p→Pol.dep p < n→0≤spec_PolCountR n p∧spec_PolCountR n p+1≤2 ^ d
 | 0,_,_,_,h,_=>h.elim
 | d+1,0,p,_,_,hn=>absurd hn (Nat.not_lt_zero _)
 | d+1,n+1,p,hd,h,hn=>by
   have ih:∀q∈p.L,0≤spec_PolCountR n q∧spec_PolCountR n q+1≤2 ^ d:=fun q hq=>polD_count d n q (by omega) (h.2.2 q hq) (by have:=Pol.dep_lt hq;omega)
   rw [spec_PolCountR.eq_2]
   have h8:(2:Int) ^ d≤4:=by
    have:d=0∨d=1∨d=2:=by omega
    rcases this with rfl | rfl | rfl <;> decide
   have hp:(2:Int) ^ (d+1)=2 ^ d+2 ^ d:=by rw [Int.pow_succ];omega
   have h1:(1:Int)≤2 ^ d:=by
    have:d=0∨d=1∨d=2:=by omega
    rcases this with rfl | rfl | rfl <;> decide
   rcases two h.2.1 with e | ⟨a,e⟩ | ⟨a,b,e⟩
   · rw [e];show 0≤(1:Int)∧(1:Int)+1≤_;omega
   · have qa:=ih a (by rw [e];exact List.mem_cons_self ..)
     rw [e]
     show 0≤IntKind.i64.wrap (1+spec_PolCountR n a)∧IntKind.i64.wrap (1+spec_PolCountR n a)+1≤_
     rw [Go.Ev.wrap_small (by omega) (by omega)]
     omega
   · have qa:=ih a (by rw [e];exact List.mem_cons_self ..)
     have qb:=ih b (by rw [e];exact List.mem_cons_of_mem _ (List.mem_cons_self ..))
     rw [e]
     show 0≤IntKind.i64.wrap (IntKind.i64.wrap (1+spec_PolCountR n a)+spec_PolCountR n b)∧IntKind.i64.wrap (IntKind.i64.wrap (1+spec_PolCountR n a)+spec_PolCountR n b)+1≤_
     rw [Go.Ev.wrap_small (n:=1+spec_PolCountR n a) (by omega) (by omega),Go.Ev.wrap_small (by omega) (by omega)]
     omega
def spec_l5Deep_b1 (r0:(Pol→Int→Bool)) (p1:Int) (i1:Nat) (s1:Unit) (a1:Pol):Step (Unit) Bool :=
 (bif (!(r0 a1 (IntKind.i64.wrap (p1+1)))) then (.done false) else (.next ()))
def spec_l5DeepR:Nat→Pol→Int→Bool
 | 0,_,_=>default
 | n+1,p0,p1=>(bif (decide (p1 > 4)) then false else (bif (!(spec_l5One p0)) then false else (Fin.get (fun s1=>true) (loopL (spec_l5Deep_b1 (spec_l5DeepR n) p1) 0 () p0.L))))
theorem cR_spec_l5Deep:∀(n:Nat) (p0:Pol) (p1:Int),Pol.dep p0 < n→FnOk prog 101 [.agg (Pol.opn false p0),.one (.v (.int .i64 p1))] ⟨.one (.v (.bool (spec_l5DeepR n p0 p1))),[],[],false⟩:=by
 intro n
 induction n with
 | zero=>intro p0 p1 hd0;omega
 | succ n ih =>
   intro p0 p1 hd0
   refine FnOk.intro (E:=env) envOk wide func101 rfl (by kernel_rfl) rfl rfl ?_
   have hg:spec_l5DeepR (n+1) p0 p1=_:=spec_l5DeepR.eq_2 ..
   have hown:∀g:Bool,AV.Own (AV.one (.v (.bool g))):=fun g=>.v _
   refine seqE ?_
   refine litE (m:=0) rfl ?_
   refine seqE ?_
   refine seqE ?_
   refine brDF hg (fun hg h1=>?_) (fun hg h1=>?_)
   · refine .inl (⟨_,_,c_spec_l5One p0,(FzAs.same _),?_⟩)
     refine litE (m:=2) rfl ?_
     refine brE hg (fun hg h2=>?_) (fun hg h2=>?_)
     · refine seqE ?_
       exact leafE hown hg
     · refine seqE ?_
       refine seqE ?_
       refine loopLE hg [1,2] (fun x1=>[(5,.one (.v (.int .i64 ((x1.i:Nat):Int))))]) (fun x1=>[.keep 0,.dead]) [some 0,none] ?_ (fun x1=>?_)
       · exact (by repeat' constructor)
       refine seqE ?_
       refine seqE ?_
       refine lenM fun hN3=>?_
       refine tstL (fun hi1=>?_) (fun hi1=>?_)
       · have hb1:=(x1.bdy hi1).trans (spec_l5Deep_b1.eq_1 ..)
         have hw1:=wrap_succ hi1 (by assumption)
         refine seqE ?_
         refine seqE ?_
         refine idxAtR (Pol.cells_eq false) hi1 ?_
         refine .inl (⟨_,_,ih (p0.L[x1.i]'hi1) (IntKind.i64.wrap (p1+1)) (by exact Nat.lt_of_lt_of_le (Pol.dep_lt (List.getElem_mem _)) (Nat.le_of_lt_succ hd0)),(FzAs.same _),?_⟩)
         refine litE (m:=3) rfl ?_
         refine brE hb1 (fun hb1 h4=>?_) (fun hb1 h4=>x1.goE hi1 hb1 [some 0,none] ⟨rfl,⟨(eqInt hw1),rfl,⟨rfl,rfl,rfl,rfl⟩,trivial⟩,(by repeat' constructor),trivial⟩)
         refine seqE ?_
         have hg:=donE hg (x1.outD hi1 hb1)
         exact leafE hown hg
       have hg:=finE hg (x1.fin hi1)
       refine seqE ?_
       exact leafE hown hg
   · refine seqE ?_
     exact leafE hown hg
def spec_l5Deep (p0:Pol) (p1:Int):Bool:=spec_l5DeepR (Pol.dep p0+1) p0 p1
theorem c_spec_l5Deep (p0:Pol) (p1:Int):FnOk prog 101 [.agg (Pol.opn false p0),.one (.v (.int .i64 p1))] ⟨.one (.v (.bool (spec_l5Deep p0 p1))),[],[],false⟩:=cR_spec_l5Deep _ p0 p1 (Nat.lt_succ_self _)
def spec_PolOk (p0:Pol):Bool :=
 (bif (decide ((spec_PolCount p0)≤12)) then (spec_l5Deep p0 1) else false)
theorem c_spec_PolOk (p0:Pol):FnOk prog 85 [.agg (Pol.opn false p0)] ⟨.one (.v (.bool (spec_PolOk p0))),[],[],false⟩:=by
 refine FnOk.intro (E:=env) envOk wide func85 rfl (by kernel_rfl) rfl rfl ?_
 have hg:=spec_PolOk.eq_1 p0
 have hown:∀g:Bool,AV.Own (AV.one (.v (.bool g))):=fun g=>.v _
 exact seqE (litE (m:=0) rfl (seqE (.inl (⟨_,_,c_spec_PolCount p0,(FzAs.same _),litE (m:=2) rfl (brD hg (fun hg h1=>.inl (⟨_,_,c_spec_l5Deep p0 1,(FzAs.same _),litE (m:=3) rfl (leafE hown hg)⟩)) (fun hg h1=>leafE hown hg))⟩))))
def spec_ConfOk (p0:Conf):Bool :=
 (bif (spec_l1In p0.Stripes 1 3) then (bif (spec_l1In p0.Wait 1 50) then (bif (spec_l1In p0.Budget 1 190) then (bif (spec_l1In p0.Cache 1 6) then (bif (spec_l1In p0.Queue 1 4) then (bif (spec_l1In p0.Rate 0 99) then (bif (spec_l1In p0.Burst 0 999) then (spec_PolOk p0.Rule) else false) else false) else false) else false) else false) else false) else false)
theorem c_spec_ConfOk (p0:Conf):FnOk prog 63 [.agg ((Conf.cells false) p0)] ⟨.one (.v (.bool (spec_ConfOk p0))),[],[],false⟩:=by
 refine FnOk.intro (E:=env) envOk wide func63 rfl (by kernel_rfl) rfl rfl ?_
 have hg:=spec_ConfOk.eq_1 p0
 have hown:∀g:Bool,AV.Own (AV.one (.v (.bool g))):=fun g=>.v _
 exact seqE (litE (m:=0) rfl (seqE (.inl (⟨_,_,c_spec_l1In p0.Stripes 1 3,(FzAs.same _),litE (m:=2) rfl (brE hg (fun hg h1=>.inl (⟨_,_,c_spec_l1In p0.Wait 1 50,(FzAs.same _),litE (m:=3) rfl (brE hg (fun hg h2=>.inl (⟨_,_,c_spec_l1In p0.Budget 1 190,(FzAs.same _),litE (m:=4) rfl (brE hg (fun hg h3=>.inl (⟨_,_,c_spec_l1In p0.Cache 1 6,(FzAs.same _),litE (m:=5) rfl (brE hg (fun hg h4=>.inl (⟨_,_,c_spec_l1In p0.Queue 1 4,(FzAs.same _),litE (m:=6) rfl (brE hg (fun hg h5=>.inl (⟨_,_,c_spec_l1In p0.Rate 0 99,(FzAs.same _),litE (m:=7) rfl (brE hg (fun hg h6=>.inl (⟨_,_,c_spec_l1In p0.Burst 0 999,(FzAs.same _),litE (m:=8) rfl (brE hg (fun hg h7=>.inl (⟨_,_,c_spec_PolOk p0.Rule,(FzAs.same _),litE (m:=9) rfl (leafE hown hg)⟩)) (fun hg h7=>leafE hown hg))⟩)) (fun hg h6=>leafE hown hg))⟩)) (fun hg h5=>leafE hown hg))⟩)) (fun hg h4=>leafE hown hg))⟩)) (fun hg h3=>leafE hown hg))⟩)) (fun hg h2=>leafE hown hg))⟩)) (fun hg h1=>leafE hown hg))⟩))))
theorem confOk_st {c:Conf} (h:spec_ConfOk c=true):1≤c.Stripes∧c.Stripes≤3:=by
 unfold spec_ConfOk at h
 cases hw:spec_l1In c.Stripes 1 3 with
 | false=>rw [hw] at h;cases h
 | true=>unfold spec_l1In at hw;simpa [Bool.cond_eq_ite] using hw
theorem polD_deep:∀(d n:Nat) (p:Pol) (k:Int),1≤k→k+d≤5→PolD d p→Pol.dep p < n→spec_l5DeepR n p k=true
 | 0,_,_,_,_,_,h,_=>h.elim
 | d+1,0,p,_,_,_,_,hn=>absurd hn (Nat.not_lt_zero _)
 | d+1,n+1,p,k,h1,h2,h,hn=>by
   have ih:∀q∈p.L,spec_l5DeepR n q (IntKind.i64.wrap (k+1))=true:=fun q hq=>polD_deep d n q _ (by rw [Go.Ev.wrap_small (by omega) (by omega)];omega) (by rw [Go.Ev.wrap_small (by omega) (by omega)];omega) (h.2.2 q hq) (by have:=Pol.dep_lt hq;omega)
   rw [spec_l5DeepR.eq_2,decide_eq_false (show ¬k > 4 by omega),cond_false,h.1,Bool.not_true,cond_false]
   have key:∀(l:List Pol) (i:Nat),(∀q∈l,q∈p.L)→loopL (spec_l5Deep_b1 (spec_l5DeepR n) k) i () l=.fin ():=by
    intro l
    induction l with
    | nil=>intro i _;rfl
    | cons a l ih2 =>
      intro i hm
      have hb:spec_l5Deep_b1 (spec_l5DeepR n) k i () a=.next ():=by unfold spec_l5Deep_b1;rw [ih a (hm a (List.mem_cons_self ..))];rfl
      unfold loopL
      rw [hb]
      exact ih2 (i+1) (fun q hq=>hm q (List.mem_cons_of_mem _ hq))
   rw [key p.L 0 (fun _ h=>h)]
   rfl
theorem polD_ok {p:Pol} (h:PolD 3 p):spec_PolOk p=true:=by
 unfold spec_PolOk spec_PolCount spec_l5Deep
 have hc:=polD_count 3 (Pol.dep p+1) p (Nat.le_refl _) h (Nat.lt_succ_self _)
 have h8:(2:Int) ^ 3=8:=by decide
 rw [decide_eq_true (show spec_PolCountR (Pol.dep p+1) p≤12 by omega),cond_true]
 exact polD_deep 3 _ p 1 (by omega) (by omega) h (Nat.lt_succ_self _)
theorem one126 {k:Int} (h:k=1∨k=2∨k=6):spec_l5One (Pol.mk k 0 (ByteArray.mk #[]) (ByteArray.mk #[]) [])=true:=by
 rcases h with rfl | rfl | rfl <;> rfl
theorem one3 {v:Int} (h:v∈[(0:Int),1,5,20]):spec_l5One (Pol.mk 3 v (ByteArray.mk #[]) (ByteArray.mk #[]) [])=true:=by
 simp only [List.mem_cons,List.not_mem_nil,or_false] at h
 rcases h with rfl | rfl | rfl | rfl <;> rfl
theorem one4 {k t:ByteArray} (h:k∈[(ByteArray.mk #[107]),(ByteArray.mk #[112,97,116,104]),(ByteArray.mk #[99,111,100,101]),(ByteArray.mk #[117,115,101,114])]) (h2:t∈[(ByteArray.mk #[97]),(ByteArray.mk #[98]),(ByteArray.mk #[111,107])]):spec_l5One (Pol.mk 4 0 k t [])=true:=by
 simp only [List.mem_cons,List.not_mem_nil,or_false] at h h2
 rcases h with rfl | rfl | rfl | rfl <;> rcases h2 with rfl | rfl | rfl <;> rfl
theorem one5 {k:ByteArray} {v:Int} (h:k∈[(ByteArray.mk #[107]),(ByteArray.mk #[112,97,116,104]),(ByteArray.mk #[99,111,100,101]),(ByteArray.mk #[117,115,101,114])]) (h2:v∈[(0:Int),1,200,500]):spec_l5One (Pol.mk 5 v k (ByteArray.mk #[]) [])=true:=by
 simp only [List.mem_cons,List.not_mem_nil,or_false] at h h2
 rcases h with rfl | rfl | rfl | rfl <;> rcases h2 with rfl | rfl | rfl | rfl <;> rfl
theorem one78 {k:Int} {l:List Pol} (h:k=7∨k=8) (h2:1≤l.length∧l.length≤2):spec_l5One (Pol.mk k 0 (ByteArray.mk #[]) (ByteArray.mk #[]) l)=true:=by
 have e:spec_l1In ((l.length:Nat):Int) 1 4=true:=l1In_iff.2 (by omega)
 rcases h with rfl | rfl <;> exact e
theorem one9 {p:Pol}:spec_l5One (Pol.mk 9 0 (ByteArray.mk #[]) (ByteArray.mk #[]) [p])=true:=rfl
def PolR (d:Nat) (z:Pol×Cur):Prop:=PolD d z.1
theorem l5J1_kind {d:Int} {v:Int×Cur} (hv:CurOk v.2) (hk:v.1∈[(1:Int),2,3,4,5,6,6,7,8,9]):∃s,spec_l5Draw_j1 d v=.next s∧CurOk (Cur.mk s.1 s.2.1 s.2.2.1)∧1≤s.2.2.2∧s.2.2.2≤9∧(d=1→s.2.2.2≤6):=by
 have h9:1≤v.1∧v.1≤9:=by
  simp only [List.mem_cons,List.not_mem_nil,or_false] at hk
  omega
 unfold spec_l5Draw_j1
 by_cases h1:d=1
 · subst h1
   rw [show ((1:Int)==1)=true from rfl,cond_true]
   by_cases h2:v.1≥7
   · rw [decide_eq_true h2,cond_true]
     have q:=bd_l1Below v.2 (n:=6) (by omega) (by omega)
     have e:IntKind.i64.wrap (1+(spec_l1Below v.2 6).1)=1+(spec_l1Below v.2 6).1:=Go.Ev.wrap_small (by omega) (by omega)
     refine ⟨((spec_l1Below v.2 6).2.f_b,(spec_l1Below v.2 6).2.f_i,(spec_l1Below v.2 6).2.f_h,IntKind.i64.wrap (1+(spec_l1Below v.2 6).1)),rfl,ok_l1Below (n:=6) hv,?_,?_,fun _=>?_⟩
     · show 1≤IntKind.i64.wrap (1+(spec_l1Below v.2 6).1);omega
     · show IntKind.i64.wrap (1+(spec_l1Below v.2 6).1)≤9;omega
     · show IntKind.i64.wrap (1+(spec_l1Below v.2 6).1)≤6;omega
   · rw [decide_eq_false h2,cond_false]
     exact ⟨_,rfl,hv,h9.1,h9.2,fun _=>by show v.1≤6;omega⟩
 · rw [show (d==1)=false by simpa using h1,cond_false]
   exact ⟨_,rfl,hv,h9.1,h9.2,fun h=>absurd h h1⟩
theorem l5J2_kind {s:List Int×Int×Int×Int}:spec_l5Draw_j2 s=.next (decide (s.2.2.2=7∨s.2.2.2=8)):=by
 unfold spec_l5Draw_j2
 by_cases h:s.2.2.2=7
 · rw [show (s.2.2.2==7)=true by simpa using h,cond_true,decide_eq_true (.inl h)]
 · rw [show (s.2.2.2==7)=false by simpa using h,cond_false]
   by_cases h8:s.2.2.2=8
   · rw [show (s.2.2.2==8)=true by simpa using h8,decide_eq_true (.inr h8)]
   · rw [show (s.2.2.2==8)=false by simpa using h8,decide_eq_false (by omega)]
theorem polD_draw:∀(n d:Nat) (c:Cur),d < n→d≤100→CurOk c→PolR (d+1) (spec_l5DrawR n c ((d:Int)+1))
 | 0,d,c,hn,_,_=>absurd hn (Nat.not_lt_zero _)
 | n+1,d,c,hn,hd,hc=>by
   have ih:∀c,CurOk c→1≤d→PolD d (spec_l5DrawR n c (IntKind.i64.wrap (((d:Int)+1) - 1))).1:=fun c hc h1=>by
    have q:=polD_draw n (d - 1) c (by omega) (by omega) hc
    rw [show (((d - 1:Nat):Int)+1)=IntKind.i64.wrap (((d:Int)+1) - 1) by rw [Go.Ev.wrap_small (by omega) (by omega)];omega,show d - 1+1=d by omega] at q
    exact q
   rw [spec_l5DrawR.eq_2]
   have hk:=l1Int_mem (c:=c) (l:=[1,2,3,4,5,6,6,7,8,9]) ⟨by decide,by decide⟩
   obtain ⟨s,e,hs,h1,h9,h6⟩:=l5J1_kind (d:=(d:Int)+1) (ok_l1Int (l:=[1,2,3,4,5,6,6,7,8,9]) hc) hk
   show PolR (d+1) (Step.get _ (spec_l5Draw_j1 ((d:Int)+1) (spec_l1Int c [1,2,3,4,5,6,6,7,8,9])))
   rw [e]
   generalize hC:Cur.mk s.1 s.2.1 s.2.2.1=C at hs
   show PolR (d+1) (bif (s.2.2.2==3) then _ else _)
   rw [hC]
   refine bif_ind (P:=PolR (d+1)) (fun k=>?_) (fun k3=>bif_ind (P:=PolR (d+1)) (fun k=>?_) (fun k4=>bif_ind (P:=PolR (d+1)) (fun k=>?_) (fun k5=>?_)))
   · have k:s.2.2.2=3:=by simpa using k
     refine ⟨?_,Nat.zero_le _,fun _ h=>(by cases h)⟩
     show spec_l5One (Pol.mk s.2.2.2 (spec_l1Int C [0,1,5,20]).1 (ByteArray.mk #[]) (ByteArray.mk #[]) [])=true
     rw [k];exact one3 (l1Int_mem ⟨by decide,by decide⟩)
   · have k:s.2.2.2=4:=by simpa using k
     refine ⟨?_,Nat.zero_le _,fun _ h=>(by cases h)⟩
     show spec_l5One (Pol.mk s.2.2.2 0 (spec_l1Names C).1 (spec_l1Str (spec_l1Names C).2 [(ByteArray.mk #[97]),(ByteArray.mk #[98]),(ByteArray.mk #[111,107])]).1 [])=true
     rw [k];exact one4 (l1Str_mem ⟨by decide,by decide⟩) (l1Str_mem ⟨by decide,by decide⟩)
   · have k:s.2.2.2=5:=by simpa using k
     refine ⟨?_,Nat.zero_le _,fun _ h=>(by cases h)⟩
     show spec_l5One (Pol.mk s.2.2.2 (spec_l1Int (spec_l1Names C).2 [0,1,200,500]).1 (spec_l1Names C).1 (ByteArray.mk #[]) [])=true
     rw [k];exact one5 (l1Str_mem ⟨by decide,by decide⟩) (l1Int_mem ⟨by decide,by decide⟩)
   · have k3:s.2.2.2≠3:=by simpa using k3
     have k4:s.2.2.2≠4:=by simpa using k4
     have k5:s.2.2.2≠5:=by simpa using k5
     show PolR (d+1) (Step.get _ (spec_l5Draw_j2 s))
     rw [l5J2_kind]
     refine bif_ind (P:=PolR (d+1)) (c:=decide (s.2.2.2=7∨s.2.2.2=8)) (fun k=>?_) (fun k=>bif_ind (P:=PolR (d+1)) (fun k9=>?_) (fun k9=>?_))
     · have k:=of_decide_eq_true k
       have hd1:1≤d:=by
        rcases Nat.eq_zero_or_pos d with rfl | h
        · have:=h6 rfl;omega
        · exact h
       have q:=bd_l1Below C (n:=2) (by omega) (by omega)
       have hb:=ok_l1Below (n:=2) hs
       have pa:=ih _ hb hd1
       have pb:=ih _ (ok_l5DrawR n (d:=IntKind.i64.wrap (((d:Int)+1) - 1)) hb) hd1
       have h01:(spec_l1Below C 2).1=0∨(spec_l1Below C 2).1=1:=by omega
       generalize spec_l1Below C 2=V at *
       obtain ⟨x,c'⟩:=V
       rcases h01 with h0 | h0
       all_goals
        have h0:x=_:=h0
        subst h0
       · exact ⟨one78 (l:=[_]) k ⟨Nat.le_of_ble_eq_true rfl,Nat.le_of_ble_eq_true rfl⟩,Nat.le_of_ble_eq_true rfl,fun q hq=>by obtain rfl:=List.mem_singleton.1 hq;exact pa⟩
       · exact ⟨one78 (l:=[_,_]) k ⟨Nat.le_of_ble_eq_true rfl,Nat.le_of_ble_eq_true rfl⟩,Nat.le_of_ble_eq_true rfl,fun q hq=>by
          rcases List.mem_cons.1 hq with rfl | hq
          · exact pa
          · obtain rfl:=List.mem_singleton.1 hq;exact pb⟩
     · have k9:s.2.2.2=9:=by simpa using k9
       have hd1:1≤d:=by
        rcases Nat.eq_zero_or_pos d with rfl | h
        · have:=h6 rfl;omega
        · exact h
       have pa:=ih C hs hd1
       show PolD (d+1) (Pol.mk s.2.2.2 0 (ByteArray.mk #[]) (ByteArray.mk #[]) [(spec_l5DrawR n C (IntKind.i64.wrap (((d:Int)+1) - 1))).1])
       rw [k9]
       exact ⟨one9,Nat.le_of_ble_eq_true rfl,fun q hq=>by obtain rfl:=List.mem_singleton.1 hq;exact pa⟩
     · have k9:s.2.2.2≠9:=by simpa using k9
       have k:=of_decide_eq_false k
       exact ⟨one126 (by omega),Nat.zero_le _,fun _ h=>(by cases h)⟩
theorem l13Draw_conf {c:Cur} (h:CurOk c):spec_ConfOk (spec_l13Draw c).1=true∧Conf.bd 1000 (spec_l13Draw c).1:=by
 unfold spec_l13Draw
 simp only [bindV]
 have hP:PolD 3 (spec_l5Draw (spec_l1Int (spec_l1Below (spec_l1Below (spec_l1Below (spec_l1Int (spec_l1Int (spec_l1Below c 3).2 [1,2,3,9]).2 [40,60,90,190]).2 4).2 3).2 3).2 [0,1,2,4]).2 3).1:=polD_draw 4 2 _ (by omega) (by omega) (ok_l1Int (ok_l1Below (ok_l1Below (ok_l1Below (ok_l1Int (ok_l1Int (ok_l1Below h)))))))
 refine ⟨?_,Pol_mono (by omega) _ (polD_bd 3 _ hP)⟩
 have m1:=l1Int_mem (c:=(spec_l1Below c 3).2) (l:=[1,2,3,9]) ⟨by decide,by decide⟩
 have m2:=l1Int_mem (c:=(spec_l1Int (spec_l1Below c 3).2 [1,2,3,9]).2) (l:=[40,60,90,190]) ⟨by decide,by decide⟩
 have b1:=bd_l1Below c (n:=3) (by omega) (by omega)
 generalize (spec_l1Int (spec_l1Below c 3).2 [1,2,3,9]).2=c2 at *
 generalize spec_l1Int c2 [40,60,90,190]=v3 at *
 have b4:=bd_l1Below v3.2 (n:=4) (by omega) (by omega)
 generalize spec_l1Below v3.2 4=v4 at *
 have b5:=bd_l1Below v4.2 (n:=3) (by omega) (by omega)
 generalize spec_l1Below v4.2 3=v5 at *
 have b6:=bd_l1Below v5.2 (n:=3) (by omega) (by omega)
 generalize spec_l1Below v5.2 3=v6 at *
 have m7:=l1Int_mem (c:=v6.2) (l:=[0,1,2,4]) ⟨by decide,by decide⟩
 simp only [List.mem_cons,List.not_mem_nil,or_false] at m1 m2 m7
 unfold spec_ConfOk
 dsimp only
 rw [Go.Ev.wrap_small (n:=1+(spec_l1Below c 3).1) (by omega) (by omega),Go.Ev.wrap_small (n:=1+v4.1) (by omega) (by omega),Go.Ev.wrap_small (n:=1+v5.1) (by omega) (by omega)]
 rw [l1In_iff.2 (by omega),cond_true,l1In_iff.2 (by omega),cond_true,l1In_iff.2 (by omega),cond_true,l1In_iff.2 (by omega),cond_true,l1In_iff.2 (by omega),cond_true,l1In_iff.2 (by omega),cond_true,l1In_iff.2 (by omega),cond_true]
 exact polD_ok hP
theorem l13Draw_at {c:Cur} {v:Conf×Cur} (e:v=spec_l13Draw c) (h:CurOk c):spec_ConfOk v.1=true∧Conf.bd 1000 v.1:=by rw [e];exact l13Draw_conf h
def spec_BucketNew (p0:Int) (p1:Int):Bucket :=
 (Bucket.mk p0 p1 p1 0)
theorem c_spec_BucketNew (p0:Int) (p1:Int):FnOk prog 65 [.one (.v (.int .i64 p0)),.one (.v (.int .i64 p1))] ⟨.agg (Bucket.cells (spec_BucketNew p0 p1)),[],[],false⟩:=by
 refine FnOk.intro (E:=env) envOk wide func65 rfl (by kernel_rfl) rfl rfl ?_
 have hg:=spec_BucketNew.eq_1 p0 p1
 have hown:∀g:Bucket,AV.Own (AV.agg (Bucket.cells g)):=fun g=>own_Bucket _
 exact seqE (litE (m:=0) rfl (seqE (leafE hown hg)))
def spec_WheelNew_b1 (i1:Nat) (s1:(List (List Timer))×(List (List Timer))):Step ((List (List Timer))×(List (List Timer))) Wheel :=
 (.next ((s1.1++[([]:List Timer)]),(s1.2++[([]:List Timer)])))
end Go.Proofs.Tryz.Ev
