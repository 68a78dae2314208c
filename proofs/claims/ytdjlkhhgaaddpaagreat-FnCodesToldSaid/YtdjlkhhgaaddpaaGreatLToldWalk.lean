import Derived.Test.YtdjlkhhgaaddpaaGreatLTabsS
import Derived.Test.YtdjlkhhgaaddpaaGreatEvCnt
import Derived.Test.YtdjlkhhgaaddpaaGreatEvS
set_option linter.unusedSectionVars false
namespace Go.Proofs.Tryz.Ev
open Go Go.Ev Go.Proofs
set_option maxHeartbeats 4000000
set_option maxRecDepth 100000
set_option linter.unusedSimpArgs false
set_option linter.unusedVariables false
set_option linter.unusedSectionVars false
structure Cur where
 f_b:(List Int)
 f_i:Int
 f_h:Int
deriving DecidableEq,Inhabited
def Cur.cells (o:Bool) (x:Cur):List T:=[.s o 1 (List.map cU8 x.f_b),.v (.int .i64 x.f_i),.v (.int .i64 x.f_h)]
structure Pol where
 Kind:Int
 N:Int
 Key:ByteArray
 Text:ByteArray
 L:(List Pol)
instance:Inhabited Pol:=⟨⟨0,0,ByteArray.empty,ByteArray.empty,[]⟩⟩
mutual
def Pol.dep:Pol→Nat
 | ⟨y0,y1,y2,y3,y4⟩=>Pol.depL y4+1
def Pol.depL:List Pol→Nat
 | []=>0
 | p :: l=>max (Pol.dep p) (Pol.depL l)
end
theorem Pol.depL_mem:∀{l:List Pol} {x:Pol},x∈l→Pol.dep x≤Pol.depL l
 | p :: l,x,h=>by
   simp only [Pol.depL]
   rcases List.mem_cons.1 h with rfl | h
   · omega
   · have:=Pol.depL_mem h
     omega
theorem Pol.dep_lt {x y:Pol} (h:x∈y.L):Pol.dep x < Pol.dep y:=by
 obtain ⟨y0,y1,y2,y3,y4⟩:=y
 have:=Pol.depL_mem (l:=y4) h
 simp only [Pol.dep]
 omega
mutual
def Pol.cells (o:Bool):Pol→List T
 | ⟨y0,y1,y2,y3,y4⟩=>[.v (.int .i64 y0),.v (.int .i64 y1),.v (.string y2),.v (.string y3),.s o 5 (Pol.cellsL o y4)]
def Pol.cellsL (o:Bool):List Pol→List (List T)
 | []=>[]
 | p :: l=>Pol.cells o p :: Pol.cellsL o l
end
theorem Pol.cellsL_eq (o:Bool):∀l:List Pol,Pol.cellsL o l=List.map (Pol.cells o) l
 | []=>rfl
 | p :: l=>by simp only [Pol.cellsL,List.map_cons,Pol.cellsL_eq o l]
def Pol.opn (o:Bool) (x:Pol):List T:=[.v (.int .i64 x.Kind),.v (.int .i64 x.N),.v (.string x.Key),.v (.string x.Text),.s o 5 (List.map (Pol.cells o) x.L)]
theorem Pol.cells_eq (o:Bool) (x:Pol):Pol.cells o x=Pol.opn o x:=by
 obtain ⟨y0,y1,y2,y3,y4⟩:=x
 simp only [Pol.cells,Pol.opn,Pol.cellsL_eq]
theorem a8d (x:Pol):lU (Pol.cells true x):=by
 rw [Pol.cells_eq]
 exact ⟨.v _,.v _,.v _,.v _,d5z (fun x hx=>a8d x),trivial⟩
termination_by Pol.dep x
decreasing_by exact Pol.dep_lt hx
theorem b8m (x:Pol):lU (Pol.opn true x):=by
 rw [←Pol.cells_eq];exact a8d x
theorem a3u {o:Bool} (x:Pol):jQ (Pol.cells o x)=Pol.cells false x:=by
 rw [Pol.cells_eq,Pol.cells_eq]
 show [T.v (.int .i64 x.Kind),T.v (.int .i64 x.N),T.v (.string x.Key),T.v (.string x.Text),T.s false 5 (cK (List.map (Pol.cells o) x.L))]=_
 rw [d3q (f:=Pol.cells o) (g:=Pol.cells false) (fun y hy=>a3u y)]
 rfl
termination_by Pol.dep x
decreasing_by exact Pol.dep_lt hy
theorem b8d (x:Pol):(Pol.cells false x).map T.sh=Pol.cells false x:=by rw [Pol.cells_eq];rfl
theorem a3t {o:Bool} (x:Pol):(Pol.cells o x).map T.fz=Pol.cells false x:=by
 rw [Pol.cells_eq,Pol.cells_eq]
 show [T.v (.int .i64 x.Kind),T.v (.int .i64 x.N),T.v (.string x.Key),T.v (.string x.Text),T.s false 5 (cK (List.map (Pol.cells o) x.L))]=_
 rw [bE (f:=Pol.cells o) (g:=Pol.cells false) a3u]
 rfl
mutual
def Pol.bd (M:Nat):Pol→Prop
 | ⟨y0,y1,y2,y3,y4⟩=>True∧True∧(y4.length≤M∧Pol.bdL M y4)
def Pol.bdL (M:Nat):List Pol→Prop
 | []=>True
 | p :: l=>Pol.bd M p∧Pol.bdL M l
end
theorem Pol.bdL_iff {M:Nat}:∀{l:List Pol},Pol.bdL M l↔∀x∈l,Pol.bd M x
 | []=>by simp [Pol.bdL]
 | p :: l=>by simp [Pol.bdL,Pol.bdL_iff (l:=l)]
theorem Pol.bd_eq {M:Nat} {x:Pol}:Pol.bd M x↔True∧True∧bdS Pol.bd M x.L:=by
 obtain ⟨y0,y1,y2,y3,y4⟩:=x
 simp only [Pol.bd,bdS,Pol.bdL_iff]
structure Conf where
 Stripes:Int
 Wait:Int
 Budget:Int
 Cache:Int
 Queue:Int
 Rate:Int
 Burst:Int
 Rule:Pol
deriving Inhabited
def Conf.cells (o:Bool) (x:Conf):List T:=[.v (.int .i64 x.Stripes),.v (.int .i64 x.Wait),.v (.int .i64 x.Budget),.v (.int .i64 x.Cache),.v (.int .i64 x.Queue),.v (.int .i64 x.Rate),.v (.int .i64 x.Burst),.v (.int .i64 x.Rule.Kind),.v (.int .i64 x.Rule.N),.v (.string x.Rule.Key),.v (.string x.Rule.Text),.s o 5 (List.map (Pol.cells o) x.Rule.L)]
theorem b8l (x:Conf):lU (Conf.cells true x):=⟨.v _,.v _,.v _,.v _,.v _,.v _,.v _,.v _,.v _,.v _,.v _,fF a8d _,trivial⟩
def Conf.bd (M:Nat) (x:Conf):Prop:=Pol.bd M x.Rule
structure Attr where
 Key:ByteArray
 Num:Bool
 N:Int
 Text:ByteArray
deriving DecidableEq,Inhabited
def Attr.cells (x:Attr):List T:=[.v (.string x.Key),.v (.bool x.Num),.v (.int .i64 x.N),.v (.string x.Text)]
theorem sQ (x:Attr):lU (Attr.cells x):=⟨.v _,.v _,.v _,.v _,trivial⟩
theorem gG (x:Attr):jQ (Attr.cells x)=Attr.cells x:=rfl
theorem oR (x:Attr):(Attr.cells x).map T.fz=Attr.cells x:=rfl
theorem oT (x:Attr):(Attr.cells x).map T.flat=Attr.cells x:=rfl
def Attr.bd (M:Nat) (x:Attr):Prop:=True∧True
structure Span where
 Trace:Int
 Id:Int
 Start:Int
 End:Int
 Err:Bool
 Attrs:(List Attr)
deriving DecidableEq,Inhabited
def Span.cells (o:Bool) (x:Span):List T:=[.v (.int .i64 x.Trace),.v (.int .i64 x.Id),.v (.int .i64 x.Start),.v (.int .i64 x.End),.v (.bool x.Err),.s o 4 (List.map Attr.cells x.Attrs)]
theorem xM (x:Span):lU (Span.cells true x):=⟨.v _,.v _,.v _,.v _,.v _,fF sQ _,trivial⟩
theorem tD {o:Bool} (x:Span):jQ (Span.cells o x)=Span.cells false x:=by
 show [T.v (.int .i64 x.Trace),T.v (.int .i64 x.Id),T.v (.int .i64 x.Start),T.v (.int .i64 x.End),T.v (.bool x.Err),T.s false 4 (cK (List.map Attr.cells x.Attrs))]=_
 rw [bE (f:=Attr.cells) (g:=Attr.cells) gG x.Attrs]
 rfl
theorem b3o (x:Span):(Span.cells false x).map T.sh=Span.cells false x:=rfl
theorem a0h {o:Bool} (x:Span):(Span.cells o x).map T.fz=Span.cells false x:=by
 show [T.v (.int .i64 x.Trace),T.v (.int .i64 x.Id),T.v (.int .i64 x.Start),T.v (.int .i64 x.End),T.v (.bool x.Err),T.s false 4 (cK (List.map Attr.cells x.Attrs))]=_
 rw [bE (f:=Attr.cells) (g:=Attr.cells) gG x.Attrs]
 rfl
def Span.bd (M:Nat) (x:Span):Prop:=bdS Attr.bd M x.Attrs
structure Trail where
 Id:Int
 Stamp:Int
 First:Int
 Spans:(List Span)
deriving DecidableEq,Inhabited
def Trail.cells (o:Bool) (x:Trail):List T:=[.v (.int .i64 x.Id),.v (.int .i64 x.Stamp),.v (.int .i64 x.First),.s o 6 (List.map (Span.cells o) x.Spans)]
theorem pC (x:Trail):lU (Trail.cells true x):=⟨.v _,.v _,.v _,fF xM _,trivial⟩
theorem kM {o:Bool} (x:Trail):jQ (Trail.cells o x)=Trail.cells false x:=by
 show [T.v (.int .i64 x.Id),T.v (.int .i64 x.Stamp),T.v (.int .i64 x.First),T.s false 6 (cK (List.map (Span.cells o) x.Spans))]=_
 rw [bE (f:=(Span.cells o)) (g:=(Span.cells false)) tD x.Spans]
 rfl
theorem sN (x:Trail):(Trail.cells false x).map T.sh=Trail.cells false x:=rfl
theorem jH {o:Bool} (x:Trail):(Trail.cells o x).map T.fz=Trail.cells false x:=by
 show [T.v (.int .i64 x.Id),T.v (.int .i64 x.Stamp),T.v (.int .i64 x.First),T.s false 6 (cK (List.map (Span.cells o) x.Spans))]=_
 rw [bE (f:=(Span.cells o)) (g:=(Span.cells false)) tD x.Spans]
 rfl
def Trail.bd (M:Nat) (x:Trail):Prop:=bdS Span.bd M x.Spans
structure Stripe where
 Held:Int
 L:(List Trail)
deriving DecidableEq,Inhabited
def Stripe.cells (o:Bool) (x:Stripe):List T:=[.v (.int .i64 x.Held),.s o 4 (List.map (Trail.cells o) x.L)]
theorem a4q (x:Stripe):lU (Stripe.cells true x):=⟨.v _,fF pC _,trivial⟩
theorem a0b {o:Bool} (x:Stripe):jQ (Stripe.cells o x)=Stripe.cells false x:=by
 show [T.v (.int .i64 x.Held),T.s false 4 (cK (List.map (Trail.cells o) x.L))]=_
 rw [bE (f:=(Trail.cells o)) (g:=(Trail.cells false)) kM x.L]
 rfl
theorem b5l (x:Stripe):(Stripe.cells false x).map T.sh=Stripe.cells false x:=rfl
theorem a2d {o:Bool} (x:Stripe):(Stripe.cells o x).map T.fz=Stripe.cells false x:=by
 show [T.v (.int .i64 x.Held),T.s false 4 (cK (List.map (Trail.cells o) x.L))]=_
 rw [bE (f:=(Trail.cells o)) (g:=(Trail.cells false)) kM x.L]
 rfl
def Stripe.bd (M:Nat) (x:Stripe):Prop:=bdS Trail.bd M x.L
structure Timer where
 Id:Int
 Trace:Int
 At:Int
deriving DecidableEq,Inhabited
def Timer.cells (x:Timer):List T:=[.v (.int .i64 x.Id),.v (.int .i64 x.Trace),.v (.int .i64 x.At)]
theorem kJ (x:Timer):lU (Timer.cells x):=⟨.v _,.v _,.v _,trivial⟩
theorem gD (x:Timer):jQ (Timer.cells x)=Timer.cells x:=rfl
theorem bR (x:Timer):(Timer.cells x).map T.fz=Timer.cells x:=rfl
theorem bS (x:Timer):(Timer.cells x).map T.flat=Timer.cells x:=rfl
def Timer.bd (M:Nat) (x:Timer):Prop:=True
structure Wheel where
 Now:Int
 Near:(List (List Timer))
 Far:(List (List Timer))
 Rest:(List Timer)
deriving DecidableEq,Inhabited
def Wheel.cells (o:Bool) (x:Wheel):List T:=[.v (.int .i64 x.Now),.s o 1 (List.map (cSl o 3 Timer.cells) x.Near),.s o 1 (List.map (cSl o 3 Timer.cells) x.Far),.s o 3 (List.map Timer.cells x.Rest)]
theorem vX (x:Wheel):lU (Wheel.cells true x):=⟨.v _,fF (a3m kJ) _,fF (a3m kJ) _,fF kJ _,trivial⟩
theorem tC {o:Bool} (x:Wheel):jQ (Wheel.cells o x)=Wheel.cells false x:=by
 show [T.v (.int .i64 x.Now),T.s false 1 (cK (List.map (cSl o 3 Timer.cells) x.Near)),T.s false 1 (cK (List.map (cSl o 3 Timer.cells) x.Far)),T.s false 3 (cK (List.map Timer.cells x.Rest))]=_
 rw [bE (f:=(cSl o 3 Timer.cells)) (g:=(cSl false 3 Timer.cells)) (oS gD) x.Near]
 rw [bE (f:=(cSl o 3 Timer.cells)) (g:=(cSl false 3 Timer.cells)) (oS gD) x.Far]
 rw [bE (f:=Timer.cells) (g:=Timer.cells) gD x.Rest]
 rfl
def Wheel.bd (M:Nat) (x:Wheel):Prop:=bdS (bdS Timer.bd) M x.Near∧bdS (bdS Timer.bd) M x.Far∧bdS Timer.bd M x.Rest
structure Item where
 Stamp:Int
 S:Span
deriving DecidableEq,Inhabited
def Item.cells (o:Bool) (x:Item):List T:=[.v (.int .i64 x.Stamp),.v (.int .i64 x.S.Trace),.v (.int .i64 x.S.Id),.v (.int .i64 x.S.Start),.v (.int .i64 x.S.End),.v (.bool x.S.Err),.s o 4 (List.map Attr.cells x.S.Attrs)]
theorem a4r (x:Item):lU (Item.cells true x):=⟨.v _,.v _,.v _,.v _,.v _,.v _,fF sQ _,trivial⟩
theorem jI {o:Bool} (x:Item):jQ (Item.cells o x)=Item.cells false x:=by
 show [T.v (.int .i64 x.Stamp),T.v (.int .i64 x.S.Trace),T.v (.int .i64 x.S.Id),T.v (.int .i64 x.S.Start),T.v (.int .i64 x.S.End),T.v (.bool x.S.Err),T.s false 4 (cK (List.map Attr.cells x.S.Attrs))]=_
 rw [bE (f:=Attr.cells) (g:=Attr.cells) gG x.S.Attrs]
 rfl
theorem xK (x:Item):(Item.cells false x).map T.sh=Item.cells false x:=rfl
theorem mV {o:Bool} (x:Item):(Item.cells o x).map T.fz=Item.cells false x:=by
 show [T.v (.int .i64 x.Stamp),T.v (.int .i64 x.S.Trace),T.v (.int .i64 x.S.Id),T.v (.int .i64 x.S.Start),T.v (.int .i64 x.S.End),T.v (.bool x.S.Err),T.s false 4 (cK (List.map Attr.cells x.S.Attrs))]=_
 rw [bE (f:=Attr.cells) (g:=Attr.cells) gG x.S.Attrs]
 rfl
def Item.bd (M:Nat) (x:Item):Prop:=Span.bd M x.S
structure Task where
 Op:Int
 Pc:Int
 S:Span
 Trace:Int
 Stamp:Int
 Hand:(List Item)
 H:Int
deriving DecidableEq,Inhabited
def Task.cells (o:Bool) (x:Task):List T:=[.v (.int .i64 x.Op),.v (.int .i64 x.Pc),.v (.int .i64 x.S.Trace),.v (.int .i64 x.S.Id),.v (.int .i64 x.S.Start),.v (.int .i64 x.S.End),.v (.bool x.S.Err),.s o 4 (List.map Attr.cells x.S.Attrs),.v (.int .i64 x.Trace),.v (.int .i64 x.Stamp),.s o 7 (List.map (Item.cells o) x.Hand),.v (.int .i64 x.H)]
theorem b8k (x:Task):lU (Task.cells true x):=⟨.v _,.v _,.v _,.v _,.v _,.v _,.v _,fF sQ _,.v _,.v _,fF a4r _,.v _,trivial⟩
theorem a9t {o:Bool} (x:Task):jQ (Task.cells o x)=Task.cells false x:=by
 show [T.v (.int .i64 x.Op),T.v (.int .i64 x.Pc),T.v (.int .i64 x.S.Trace),T.v (.int .i64 x.S.Id),T.v (.int .i64 x.S.Start),T.v (.int .i64 x.S.End),T.v (.bool x.S.Err),T.s false 4 (cK (List.map Attr.cells x.S.Attrs)),T.v (.int .i64 x.Trace),T.v (.int .i64 x.Stamp),T.s false 7 (cK (List.map (Item.cells o) x.Hand)),T.v (.int .i64 x.H)]=_
 rw [bE (f:=Attr.cells) (g:=Attr.cells) gG x.S.Attrs]
 rw [bE (f:=(Item.cells o)) (g:=(Item.cells false)) jI x.Hand]
 rfl
theorem c2o (x:Task):(Task.cells false x).map T.sh=Task.cells false x:=rfl
theorem a8h {o:Bool} (x:Task):(Task.cells o x).map T.fz=Task.cells false x:=by
 show [T.v (.int .i64 x.Op),T.v (.int .i64 x.Pc),T.v (.int .i64 x.S.Trace),T.v (.int .i64 x.S.Id),T.v (.int .i64 x.S.Start),T.v (.int .i64 x.S.End),T.v (.bool x.S.Err),T.s false 4 (cK (List.map Attr.cells x.S.Attrs)),T.v (.int .i64 x.Trace),T.v (.int .i64 x.Stamp),T.s false 7 (cK (List.map (Item.cells o) x.Hand)),T.v (.int .i64 x.H)]=_
 rw [bE (f:=Attr.cells) (g:=Attr.cells) gG x.S.Attrs]
 rw [bE (f:=(Item.cells o)) (g:=(Item.cells false)) jI x.Hand]
 rfl
def Task.bd (M:Nat) (x:Task):Prop:=Span.bd M x.S∧bdS Item.bd M x.Hand
structure Deed where
 Op:Int
 Task:Int
 S:Span
 Trace:Int
 Stamp:Int
 Code:Int
 Keep:Bool
 Void:Bool
 Took:Int
 N:Int
 Forgot:Int
 Now:Int
 Inv:Int
 Lin:Int
 Res:Int
deriving DecidableEq,Inhabited
def Deed.cells (o:Bool) (x:Deed):List T:=[.v (.int .i64 x.Op),.v (.int .i64 x.Task),.v (.int .i64 x.S.Trace),.v (.int .i64 x.S.Id),.v (.int .i64 x.S.Start),.v (.int .i64 x.S.End),.v (.bool x.S.Err),.s o 4 (List.map Attr.cells x.S.Attrs),.v (.int .i64 x.Trace),.v (.int .i64 x.Stamp),.v (.int .i64 x.Code),.v (.bool x.Keep),.v (.bool x.Void),.v (.int .i64 x.Took),.v (.int .i64 x.N),.v (.int .i64 x.Forgot),.v (.int .i64 x.Now),.v (.int .i64 x.Inv),.v (.int .i64 x.Lin),.v (.int .i64 x.Res)]
theorem a9p (x:Deed):lU (Deed.cells true x):=⟨.v _,.v _,.v _,.v _,.v _,.v _,.v _,fF sQ _,.v _,.v _,.v _,.v _,.v _,.v _,.v _,.v _,.v _,.v _,.v _,.v _,trivial⟩
theorem xT {o:Bool} (x:Deed):jQ (Deed.cells o x)=Deed.cells false x:=by
 show [T.v (.int .i64 x.Op),T.v (.int .i64 x.Task),T.v (.int .i64 x.S.Trace),T.v (.int .i64 x.S.Id),T.v (.int .i64 x.S.Start),T.v (.int .i64 x.S.End),T.v (.bool x.S.Err),T.s false 4 (cK (List.map Attr.cells x.S.Attrs)),T.v (.int .i64 x.Trace),T.v (.int .i64 x.Stamp),T.v (.int .i64 x.Code),T.v (.bool x.Keep),T.v (.bool x.Void),T.v (.int .i64 x.Took),T.v (.int .i64 x.N),T.v (.int .i64 x.Forgot),T.v (.int .i64 x.Now),T.v (.int .i64 x.Inv),T.v (.int .i64 x.Lin),T.v (.int .i64 x.Res)]=_
 rw [bE (f:=Attr.cells) (g:=Attr.cells) gG x.S.Attrs]
 rfl
theorem a3i (x:Deed):(Deed.cells false x).map T.sh=Deed.cells false x:=rfl
theorem rJ {o:Bool} (x:Deed):(Deed.cells o x).map T.fz=Deed.cells false x:=by
 show [T.v (.int .i64 x.Op),T.v (.int .i64 x.Task),T.v (.int .i64 x.S.Trace),T.v (.int .i64 x.S.Id),T.v (.int .i64 x.S.Start),T.v (.int .i64 x.S.End),T.v (.bool x.S.Err),T.s false 4 (cK (List.map Attr.cells x.S.Attrs)),T.v (.int .i64 x.Trace),T.v (.int .i64 x.Stamp),T.v (.int .i64 x.Code),T.v (.bool x.Keep),T.v (.bool x.Void),T.v (.int .i64 x.Took),T.v (.int .i64 x.N),T.v (.int .i64 x.Forgot),T.v (.int .i64 x.Now),T.v (.int .i64 x.Inv),T.v (.int .i64 x.Lin),T.v (.int .i64 x.Res)]=_
 rw [bE (f:=Attr.cells) (g:=Attr.cells) gG x.S.Attrs]
 rfl
def Deed.bd (M:Nat) (x:Deed):Prop:=Span.bd M x.S
structure Bucket where
 Rate:Int
 Burst:Int
 Tokens:Int
 At:Int
deriving DecidableEq,Inhabited
def Bucket.cells (x:Bucket):List T:=[.v (.int .i64 x.Rate),.v (.int .i64 x.Burst),.v (.int .i64 x.Tokens),.v (.int .i64 x.At)]
theorem a4s (x:Bucket):lU (Bucket.cells x):=⟨.v _,.v _,.v _,.v _,trivial⟩
structure Verdict where
 Trace:Int
 Stamp:Int
 Keep:Bool
deriving DecidableEq,Inhabited
def Verdict.cells (x:Verdict):List T:=[.v (.int .i64 x.Trace),.v (.int .i64 x.Stamp),.v (.bool x.Keep)]
theorem a2u (x:Verdict):lU (Verdict.cells x):=⟨.v _,.v _,.v _,trivial⟩
theorem a8x (x:Verdict):jQ (Verdict.cells x)=Verdict.cells x:=rfl
theorem mA (x:Verdict):(Verdict.cells x).map T.fz=Verdict.cells x:=rfl
theorem mB (x:Verdict):(Verdict.cells x).map T.flat=Verdict.cells x:=rfl
def Verdict.bd (M:Nat) (x:Verdict):Prop:=True
structure World where
 C:Conf
 Time:Int
 Shut:Bool
 St:(List Stripe)
 RuleHeld:Int
 B:Bucket
 Cache:(List Verdict)
 Used:Int
 W:Wheel
 Due:(List Timer)
 Queue:(List Item)
 Out:(List Item)
 Tasks:(List Task)
 Deeds:(List Deed)
 Next:Int
deriving Inhabited
def World.cells (o:Bool) (x:World):List T:=[.v (.int .i64 x.C.Stripes),.v (.int .i64 x.C.Wait),.v (.int .i64 x.C.Budget),.v (.int .i64 x.C.Cache),.v (.int .i64 x.C.Queue),.v (.int .i64 x.C.Rate),.v (.int .i64 x.C.Burst),.v (.int .i64 x.C.Rule.Kind),.v (.int .i64 x.C.Rule.N),.v (.string x.C.Rule.Key),.v (.string x.C.Rule.Text),.s o 5 (List.map (Pol.cells o) x.C.Rule.L),.v (.int .i64 x.Time),.v (.bool x.Shut),.s o 2 (List.map (Stripe.cells o) x.St),.v (.int .i64 x.RuleHeld),.v (.int .i64 x.B.Rate),.v (.int .i64 x.B.Burst),.v (.int .i64 x.B.Tokens),.v (.int .i64 x.B.At),.s o 3 (List.map Verdict.cells x.Cache),.v (.int .i64 x.Used),.v (.int .i64 x.W.Now),.s o 1 (List.map (cSl o 3 Timer.cells) x.W.Near),.s o 1 (List.map (cSl o 3 Timer.cells) x.W.Far),.s o 3 (List.map Timer.cells x.W.Rest),.s o 3 (List.map Timer.cells x.Due),.s o 7 (List.map (Item.cells o) x.Queue),.s o 7 (List.map (Item.cells o) x.Out),.s o 12 (List.map (Task.cells o) x.Tasks),.s o 20 (List.map (Deed.cells o) x.Deeds),.v (.int .i64 x.Next)]
theorem b5s (x:World):lU (World.cells true x):=⟨.v _,.v _,.v _,.v _,.v _,.v _,.v _,.v _,.v _,.v _,.v _,fF a8d _,.v _,.v _,fF a4q _,.v _,.v _,.v _,.v _,.v _,fF a2u _,.v _,.v _,fF (a3m kJ) _,fF (a3m kJ) _,fF kJ _,fF kJ _,fF a4r _,fF a4r _,fF b8k _,fF a9p _,.v _,trivial⟩
theorem b6d {o:Bool} (x:World):jQ (World.cells o x)=World.cells false x:=by
 show [T.v (.int .i64 x.C.Stripes),T.v (.int .i64 x.C.Wait),T.v (.int .i64 x.C.Budget),T.v (.int .i64 x.C.Cache),T.v (.int .i64 x.C.Queue),T.v (.int .i64 x.C.Rate),T.v (.int .i64 x.C.Burst),T.v (.int .i64 x.C.Rule.Kind),T.v (.int .i64 x.C.Rule.N),T.v (.string x.C.Rule.Key),T.v (.string x.C.Rule.Text),T.s false 5 (cK (List.map (Pol.cells o) x.C.Rule.L)),T.v (.int .i64 x.Time),T.v (.bool x.Shut),T.s false 2 (cK (List.map (Stripe.cells o) x.St)),T.v (.int .i64 x.RuleHeld),T.v (.int .i64 x.B.Rate),T.v (.int .i64 x.B.Burst),T.v (.int .i64 x.B.Tokens),T.v (.int .i64 x.B.At),T.s false 3 (cK (List.map Verdict.cells x.Cache)),T.v (.int .i64 x.Used),T.v (.int .i64 x.W.Now),T.s false 1 (cK (List.map (cSl o 3 Timer.cells) x.W.Near)),T.s false 1 (cK (List.map (cSl o 3 Timer.cells) x.W.Far)),T.s false 3 (cK (List.map Timer.cells x.W.Rest)),T.s false 3 (cK (List.map Timer.cells x.Due)),T.s false 7 (cK (List.map (Item.cells o) x.Queue)),T.s false 7 (cK (List.map (Item.cells o) x.Out)),T.s false 12 (cK (List.map (Task.cells o) x.Tasks)),T.s false 20 (cK (List.map (Deed.cells o) x.Deeds)),T.v (.int .i64 x.Next)]=_
 rw [bE (f:=(Pol.cells o)) (g:=(Pol.cells false)) a3u x.C.Rule.L]
 rw [bE (f:=(Stripe.cells o)) (g:=(Stripe.cells false)) a0b x.St]
 rw [bE (f:=Verdict.cells) (g:=Verdict.cells) a8x x.Cache]
 rw [bE (f:=(cSl o 3 Timer.cells)) (g:=(cSl false 3 Timer.cells)) (oS gD) x.W.Near]
 rw [bE (f:=(cSl o 3 Timer.cells)) (g:=(cSl false 3 Timer.cells)) (oS gD) x.W.Far]
 rw [bE (f:=Timer.cells) (g:=Timer.cells) gD x.W.Rest]
 rw [bE (f:=Timer.cells) (g:=Timer.cells) gD x.Due]
 rw [bE (f:=(Item.cells o)) (g:=(Item.cells false)) jI x.Queue]
 rw [bE (f:=(Item.cells o)) (g:=(Item.cells false)) jI x.Out]
 rw [bE (f:=(Task.cells o)) (g:=(Task.cells false)) a9t x.Tasks]
 rw [bE (f:=(Deed.cells o)) (g:=(Deed.cells false)) xT x.Deeds]
 rfl
def World.bd (M:Nat) (x:World):Prop:=Conf.bd M x.C∧bdS Stripe.bd M x.St∧bdS Verdict.bd M x.Cache∧Wheel.bd M x.W∧bdS Timer.bd M x.Due∧bdS Item.bd M x.Queue∧bdS Item.bd M x.Out∧bdS Task.bd M x.Tasks∧bdS Deed.bd M x.Deeds
structure Event where
 Kind:Int
 K:Int
 S:Span
deriving DecidableEq,Inhabited
def Event.cells (o:Bool) (x:Event):List T:=[.v (.int .i64 x.Kind),.v (.int .i64 x.K),.v (.int .i64 x.S.Trace),.v (.int .i64 x.S.Id),.v (.int .i64 x.S.Start),.v (.int .i64 x.S.End),.v (.bool x.S.Err),.s o 4 (List.map Attr.cells x.S.Attrs)]
theorem b6e {o:Bool} (x:Event):jQ (Event.cells o x)=Event.cells false x:=by
 show [T.v (.int .i64 x.Kind),T.v (.int .i64 x.K),T.v (.int .i64 x.S.Trace),T.v (.int .i64 x.S.Id),T.v (.int .i64 x.S.Start),T.v (.int .i64 x.S.End),T.v (.bool x.S.Err),T.s false 4 (cK (List.map Attr.cells x.S.Attrs))]=_
 rw [bE (f:=Attr.cells) (g:=Attr.cells) gG x.S.Attrs]
 rfl
theorem c8a (x:Event):(Event.cells false x).map T.sh=Event.cells false x:=rfl
theorem b9r {o:Bool} (x:Event):(Event.cells o x).map T.fz=Event.cells false x:=by
 show [T.v (.int .i64 x.Kind),T.v (.int .i64 x.K),T.v (.int .i64 x.S.Trace),T.v (.int .i64 x.S.Id),T.v (.int .i64 x.S.Start),T.v (.int .i64 x.S.End),T.v (.bool x.S.Err),T.s false 4 (cK (List.map Attr.cells x.S.Attrs))]=_
 rw [bE (f:=Attr.cells) (g:=Attr.cells) gG x.S.Attrs]
 rfl
def Wheel.cv (q0 q1 q2:Option Value) (x:Wheel):List T:=[.v (.int .i64 x.Now),opq q0 (.s true 1 (List.map (cSl true 3 Timer.cells) x.Near)),opq q1 (.s true 1 (List.map (cSl true 3 Timer.cells) x.Far)),opq q2 (.s true 3 (List.map Timer.cells x.Rest))]
theorem Wheel.cvo (x:Wheel):FzXs (Wheel.cells true x) (Wheel.cv none none none x):=(.cons (.same _) (.cons (.same _) (.cons (.same _) (.cons (.same _) (.same _)))))
def World.cv (q0 q1 q2 q3 q4 q5 q6:Option Value) (x:World):List T:=[.v (.int .i64 x.C.Stripes),.v (.int .i64 x.C.Wait),.v (.int .i64 x.C.Budget),.v (.int .i64 x.C.Cache),.v (.int .i64 x.C.Queue),.v (.int .i64 x.C.Rate),.v (.int .i64 x.C.Burst),.v (.int .i64 x.C.Rule.Kind),.v (.int .i64 x.C.Rule.N),.v (.string x.C.Rule.Key),.v (.string x.C.Rule.Text),.s false 5 (List.map (Pol.cells false) x.C.Rule.L),.v (.int .i64 x.Time),.v (.bool x.Shut),opq q0 (.s true 2 (List.map (Stripe.cells false) x.St)),.v (.int .i64 x.RuleHeld),.v (.int .i64 x.B.Rate),.v (.int .i64 x.B.Burst),.v (.int .i64 x.B.Tokens),.v (.int .i64 x.B.At),opq q1 (.s true 3 (List.map Verdict.cells x.Cache)),.v (.int .i64 x.Used),.v (.int .i64 x.W.Now),.s false 1 (List.map (cSl false 3 Timer.cells) x.W.Near),.s false 1 (List.map (cSl false 3 Timer.cells) x.W.Far),.s false 3 (List.map Timer.cells x.W.Rest),opq q2 (.s true 3 (List.map Timer.cells x.Due)),opq q3 (.s true 7 (List.map (Item.cells false) x.Queue)),opq q4 (.s true 7 (List.map (Item.cells false) x.Out)),opq q5 (.s true 12 (List.map (Task.cells false) x.Tasks)),opq q6 (.s true 20 (List.map (Deed.cells false) x.Deeds)),.v (.int .i64 x.Next)]
theorem World.cvo (x:World):FzXs (World.cells true x) (World.cv none none none none none none none x):=(.cons (.same _) (.cons (.same _) (.cons (.same _) (.cons (.same _) (.cons (.same _) (.cons (.same _) (.cons (.same _) (.cons (.same _) (.cons (.same _) (.cons (.same _) (.cons (.same _) (.cons (.sl _ _ _ _ (bE a3u _)) (.cons (.same _) (.cons (.same _) (.cons (.inn _ _ _ (bE a0b _)) (.cons (.same _) (.cons (.same _) (.cons (.same _) (.cons (.same _) (.cons (.same _) (.cons (.same _) (.cons (.same _) (.cons (.same _) (.cons (.sl _ _ _ _ (bE (oS gD) _)) (.cons (.sl _ _ _ _ (bE (oS gD) _)) (.cons (.sl _ _ _ _ (bE gD _)) (.cons (.same _) (.cons (.inn _ _ _ (bE jI _)) (.cons (.inn _ _ _ (bE jI _)) (.cons (.inn _ _ _ (bE a9t _)) (.cons (.inn _ _ _ (bE xT _)) (.cons (.same _) (.same _)))))))))))))))))))))))))))))))))
theorem c7e {n m:Nat} (hm:n≤m) (z:Attr) (h:Attr.bd n z):Attr.bd m z:=h
theorem nM {n m:Nat} (hm:n≤m) (y:Span) (h:Span.bd n y):Span.bd m y:=bdS.mono h hm (c7e hm)
theorem mC {n m:Nat} (hm:n≤m) (x:Trail) (h:Trail.bd n x):Trail.bd m x:=bdS.mono h hm (nM hm)
theorem yX {n:Nat} {l:List Trail} (h:bdS Trail.bd n l) (k:Nat):(l[k]?.getD default).Spans.length≤n:=by
 cases hk:l[k]? with
 | none=>exact Nat.zero_le _
 | some x=>exact (h.2 x (List.mem_of_getElem? hk)).1
theorem nN {n m:Nat} (hm:n≤m) (x:Item) (h:Item.bd n x):Item.bd m x:=nM hm _ h
theorem jS {n m:Nat} (hm:n≤m) (x:Stripe) (h:Stripe.bd n x):Stripe.bd m x:=bdS.mono h hm (mC hm)
theorem b6n {n m:Nat} (hm:n≤m) (x:Task) (h:Task.bd n x):Task.bd m x:=⟨nM hm _ h.1,bdS.mono h.2 hm (nN hm)⟩
theorem a7v {n m:Nat} (hm:n≤m) (x:Deed) (h:Deed.bd n x):Deed.bd m x:=nM hm _ h
theorem yI {n m:Nat} (hm:n≤m) (l:List Timer) (h:bdS Timer.bd n l):bdS Timer.bd m l:=bdS.mono h hm (fun _ _=>trivial)
theorem dL {n m:Nat} (hm:n≤m) {w:Wheel} (h:Wheel.bd n w):Wheel.bd m w:=⟨bdS.mono h.1 hm (yI hm),bdS.mono h.2.1 hm (yI hm),yI hm _ h.2.2⟩
theorem a0j {α:Type} {P:Nat→α→Prop} {n:Nat} {l:List α} {k:Nat} {x:α} (h:bdS P n l) (hx:P n x):bdS P n (l.set k x) :=
 ⟨by have:=h.1;rw [List.length_set];exact this,fun y hy=>by
   rcases List.mem_or_eq_of_mem_set hy with hy | rfl
   · exact h.2 y hy
   · exact hx⟩
theorem a8k {α:Type} {P:Nat→α→Prop} {n m:Nat} {l:List α} {x:α} (h:bdS P n l) (hm:n+1≤m) (hP:∀y,P n y→P m y) (hx:P m x):bdS P m (l++[x]) :=
 ⟨by have:=h.1;simp only [List.length_append,List.length_cons,List.length_nil];omega,fun y hy=>by
   rcases List.mem_append.1 hy with hy | hy
   · exact hP y (h.2 y hy)
   · obtain rfl:=List.mem_singleton.1 hy;exact hx⟩
theorem iM {α:Type} [Inhabited α] {P:Nat→α→Prop} {n:Nat} {l:List α} (h:bdS P n l) (hd:P n default) (k:Nat):P n (l[k]?.getD default):=by
 cases hk:l[k]? with
 | none=>exact hd
 | some x=>exact h.2 x (List.mem_of_getElem? hk)
structure WI (M:Nat) (w:World):Prop where
 tl:w.Tasks.length=5
 sl:1≤w.St.length∧w.St.length≤16
 t:∀t∈w.Tasks,t.Op≠0→0≤t.H∧t.H < ((w.Deeds.length:Nat):Int)
 h:∀t∈w.Tasks,t.Op=2→¬(t.Pc=0∨t.Pc=1∨t.Pc=2)→t.Hand≠[]
 c:Conf.bd 1000 w.C
 s:bdS Stripe.bd M w.St
 v:bdS Verdict.bd M w.Cache
 wb:Wheel.bd 48 w.W
 d:bdS Timer.bd M w.Due
 q:bdS Item.bd M w.Queue
 o:bdS Item.bd M w.Out
 tb:bdS Task.bd M w.Tasks
 db:bdS Deed.bd M w.Deeds
theorem WI.mono {n m:Nat} {w:World} (hm:n≤m) (h:WI n w):WI m w :=
 ⟨h.tl,h.sl,h.t,h.h,h.c,bdS.mono h.s hm (jS hm),bdS.mono h.v hm (fun _ _=>trivial),h.wb,bdS.mono h.d hm (fun _ _=>trivial),bdS.mono h.q hm (nN hm),bdS.mono h.o hm (nN hm),bdS.mono h.tb hm (b6n hm),bdS.mono h.db hm (a7v hm)⟩
theorem c1p {n m:Nat} (hm:n≤m):∀p:Pol,Pol.bd n p→Pol.bd m p:=by
 have key:∀(k:Nat) (p:Pol),Pol.dep p < k→Pol.bd n p→Pol.bd m p:=by
  intro k
  induction k with
  | zero=>intro p h;omega
  | succ k ih =>
    intro p hk h
    have h:=Pol.bd_eq.1 h
    exact Pol.bd_eq.2 ⟨trivial,trivial,Nat.le_trans h.2.2.1 hm,fun y hy=>ih y (by have:=Pol.dep_lt hy;omega) (h.2.2.2 y hy)⟩
 exact fun p=>key _ p (Nat.lt_succ_self _)
theorem b6o {n m:Nat} (hm:n≤m) {c:Conf} (h:Conf.bd n c):Conf.bd m c:=c1p hm _ h
theorem zV {α σ:Type} {b:Nat→σ→α→Step σ Bool} {k:σ→Bool} {P:α→Prop} (hd:∀i s a r,b i s a=.done r→r=false) (hs:∀i s a v,b i s a≠.stop v) (hn:∀i s a v,b i s a=.next v→P a):∀(l:List α) (i:Nat) (s:σ),Fin.get k (aJ b i s l)=true→(∀a∈l,P a)∧∃v,aJ b i s l=.fin v∧k v=true
 | [],i,s,h=>⟨fun a ha=>(by cases ha),s,rfl,h⟩
 | a :: l,i,s,h=>by
   unfold aJ at h ⊢
   cases e:b i s a with
   | next v =>
     rw [e] at h
     obtain ⟨h1,h2⟩:=zV hd hs hn l (i+1) v h
     exact ⟨fun x hx=>by rcases List.mem_cons.1 hx with rfl | hx;exact hn _ _ _ _ e;exact h1 x hx,h2⟩
   | stop v=>exact absurd e (hs _ _ _ _)
   | done r=>rw [e] at h;have:=hd _ _ _ _ e;subst this;cases h
theorem zW {σ:Type} {b:Nat→σ→Step σ Bool} {k:σ→Bool} {P:Nat→Prop} (hd:∀i s r,b i s=.done r→r=false) (hs:∀i s v,b i s≠.stop v) (hn:∀i s v,b i s=.next v→P i):∀(n i:Nat) (s:σ),Fin.get k (cJ b i s n)=true→(∀j,i≤j→j < i+n→P j)∧∃v,cJ b i s n=.fin v∧k v=true
 | 0,i,s,h=>⟨fun j h1 h2=>by omega,s,rfl,h⟩
 | n+1,i,s,h=>by
   unfold cJ at h ⊢
   cases e:b i s with
   | next v =>
     rw [e] at h
     obtain ⟨h1,h2⟩:=zW hd hs hn n (i+1) v h
     exact ⟨fun j hj hj2=>by
      by_cases hji:j=i
      · subst hji;exact hn _ _ _ e
      · exact h1 j (by omega) (by omega),h2⟩
   | stop v=>exact absurd e (hs _ _ _)
   | done r=>rw [e] at h;have:=hd _ _ _ e;subst this;cases h
theorem wQ {α:Type}:∀{l:List (List α)} {x:List α},x∈l→x.length≤(l.flatMap id).length
 | y :: l,x,h=>by
   rw [List.flatMap_cons,List.length_append]
   rcases List.mem_cons.1 h with rfl | h
   · exact Nat.le_add_right _ _
   · have:=wQ h;omega
theorem dO {β:Type} {c:Bool} {a b z:β} {Q:Prop} (ha:c=true→a=z→Q) (hb:c=false→b=z→Q):(bif c then a else b)=z→Q:=by
 cases c
 · exact hb rfl
 · exact ha rfl
theorem qT {n:Nat} {l:List (List Timer)} {k:Nat} {x:List Timer} (h:bdS (bdS Timer.bd) n l) (hx:x.length≤n):bdS (bdS Timer.bd) n (l.set k x):=a0j h ⟨hx,fun _ _=>trivial⟩
theorem nf {b:Bool} (h:(!b)=false):b=true:=by cases b;cases h;rfl
theorem yB {σ ρ:Type} {c:Bool} {A B:Step σ ρ} {P R:σ→Prop} {Q:ρ→Prop} (hA:(∀v,A=.next v→P v)∧(∀v,A=.stop v→R v)∧∀r,A=.done r→Q r) (hB:(∀v,B=.next v→P v)∧(∀v,B=.stop v→R v)∧∀r,B=.done r→Q r) :
 (∀v,(bif c then A else B)=.next v→P v)∧(∀v,(bif c then A else B)=.stop v→R v)∧∀r,(bif c then A else B)=.done r→Q r:=by
 cases c
 · exact hB
 · exact hA
theorem tT {σ ρ:Type} {P R:σ→Prop} {Q:ρ→Prop} {s:σ} (h:P s):(∀v,(Step.next s:Step σ ρ)=.next v→P v)∧(∀v,(Step.next s:Step σ ρ)=.stop v→R v)∧∀r,(Step.next s:Step σ ρ)=.done r→Q r :=
 ⟨fun v e=>by cases e;exact h,fun v e=>(by cases e),fun r e=>(by cases e)⟩
theorem c2n {σ ρ:Type} {P R:σ→Prop} {Q:ρ→Prop} {s:σ} (h:R s):(∀v,(Step.stop s:Step σ ρ)=.next v→P v)∧(∀v,(Step.stop s:Step σ ρ)=.stop v→R v)∧∀r,(Step.stop s:Step σ ρ)=.done r→Q r :=
 ⟨fun v e=>(by cases e),fun v e=>by cases e;exact h,fun r e=>(by cases e)⟩
theorem wP {σ ρ:Type} {b:Nat→σ→Step σ ρ} {P:σ→Prop} {Q:ρ→Prop} (h:∀i s,P s→(∀v,b i s=.next v→P v)∧(∀v,b i s=.stop v→P v)∧∀r,b i s=.done r→Q r):∀(n i:Nat) (s:σ),P s→(∀v,cJ b i s n=.fin v→P v)∧∀r,cJ b i s n=.done r→Q r
 | 0,i,s,hs=>⟨fun v e=>by cases e;exact hs,fun r e=>(by cases e)⟩
 | n+1,i,s,hs=>by
   unfold cJ
   have k:=h i s hs
   cases e:b i s with
   | next v=>exact wP h n (i+1) v (k.1 v e)
   | stop v=>exact ⟨fun u e'=>by cases e';exact k.2.1 v e,fun r e'=>(by cases e')⟩
   | done r=>exact ⟨fun u e'=>(by cases e'),fun r' e'=>by cases e';exact k.2.2 r e⟩
theorem a0k {α:Type} {P:α→Prop} {l:List α} {k:Nat} {x:α} (h:∀t∈l,P t) (hx:P x):∀t∈l.set k x,P t:=fun t ht=>by
 rcases List.mem_or_eq_of_mem_set ht with ht | rfl
 · exact h t ht
 · exact hx
theorem fN {α:Type} {P:Nat→α→Prop} {n:Nat}:bdS P n []:=⟨Nat.zero_le _,fun _ h=>(by cases h)⟩
theorem jP {α:Type} {l:List α} {x:α}:(l++[x]).length=l.length+1:=by rw [List.length_append];rfl
theorem WI.at {n:Nat} {w:World} (h:WI n w) (k:Nat) (ho:(w.Tasks[k]?.getD default).Op≠0):0≤(w.Tasks[k]?.getD default).H∧(w.Tasks[k]?.getD default).H < ((w.Deeds.length:Nat):Int):=by
 cases e:w.Tasks[k]? with
 | none=>rw [e] at ho;exact absurd rfl ho
 | some t=>rw [e] at ho;exact h.t t (List.mem_of_getElem? e) ho
theorem WI.hand {n:Nat} {w:World} (h:WI n w) (k:Nat) (ho:(w.Tasks[k]?.getD default).Op=2) (hp:¬((w.Tasks[k]?.getD default).Pc=0∨(w.Tasks[k]?.getD default).Pc=1∨(w.Tasks[k]?.getD default).Pc=2)):(w.Tasks[k]?.getD default).Hand≠[]:=by
 cases e:w.Tasks[k]? with
 | none=>rw [e] at ho;exact absurd ho (by decide)
 | some t=>rw [e] at ho hp;exact h.h t (List.mem_of_getElem? e) ho hp
theorem WI.task {n:Nat} {w:World} (h:WI n w) (k:Nat):Task.bd n (w.Tasks[k]?.getD default):=iM h.tb ⟨fN,fN⟩ k
theorem WI.deed {n:Nat} {w:World} (h:WI n w) (k:Nat):Deed.bd n (w.Deeds[k]?.getD default):=iM h.db fN k
theorem WI.str {n:Nat} {w:World} (h:WI n w) (k:Nat):Stripe.bd n (w.St[k]?.getD default):=iM h.s fN k
theorem WI.tk {n:Nat} {w:World} {k:Nat} {x:Task} (h:WI n w) (hb:Task.bd n x) (ho:x.Op≠0→0≤x.H∧x.H < ((w.Deeds.length:Nat):Int)) (hh:x.Op=2→¬(x.Pc=0∨x.Pc=1∨x.Pc=2)→x.Hand≠[]):WI n { w with Tasks:=w.Tasks.set k x } :=
 { h with tl:=(List.length_set ..).trans h.tl,t:=a0k h.t ho,h:=a0k h.h hh,tb:=a0j h.tb hb }
theorem WI.tz {n:Nat} {w:World} {k:Nat} (h:WI n w):WI n { w with Tasks:=w.Tasks.set k (Task.mk 0 0 (Span.mk 0 0 0 0 false ([]:List Attr)) 0 0 ([]:List Item) 0) } :=
 h.tk ⟨fN,fN⟩ (fun h=>absurd rfl h) (fun h=>absurd h (by show ¬(0:Int)=2;decide))
theorem WI.dd {n:Nat} {w:World} {k:Nat} {x:Deed} (h:WI n w) (hx:Deed.bd n x):WI n { w with Deeds:=w.Deeds.set k x } :=
 { h with t:=fun t ht ho=>by have:=h.t t ht ho;show 0≤t.H∧t.H < ((List.length (w.Deeds.set k x):Nat):Int);rw [List.length_set];exact this,db:=a0j h.db hx }
theorem WI.da {n m:Nat} {w:World} {x:Deed} (h:WI n w) (hm:n+1≤m) (hx:Deed.bd m x):WI m { w with Deeds:=w.Deeds++[x] } :=
 { h.mono (Nat.le_of_succ_le hm) with t:=fun t ht ho=>by have:=h.t t ht ho;show 0≤t.H∧t.H < ((List.length (w.Deeds++[x]):Nat):Int);rw [jP];omega,db:=a8k h.db hm (a7v (Nat.le_of_succ_le hm)) hx }
theorem WI.st {n:Nat} {w:World} {k:Nat} {x:Stripe} (h:WI n w) (hx:Stripe.bd n x):WI n { w with St:=w.St.set k x } :=
 { h with sl:=by show 1≤(w.St.set k x).length∧(w.St.set k x).length≤16;rw [List.length_set];exact h.sl,s:=a0j h.s hx }
theorem WI.sts {n:Nat} {w:World} {l:List Stripe} (h:WI n w) (hl:l.length=w.St.length) (hx:bdS Stripe.bd n l):WI n { w with St:=l } :=
 { h with sl:=by show 1≤l.length∧l.length≤16;rw [hl];exact h.sl,s:=hx }
theorem WI.qs {n:Nat} {w:World} {l:List Item} (h:WI n w) (hx:bdS Item.bd n l):WI n { w with Queue:=l }:={ h with q:=hx }
theorem WI.os {n:Nat} {w:World} {l:List Item} (h:WI n w) (hx:bdS Item.bd n l):WI n { w with Out:=l }:={ h with o:=hx }
theorem WI.ds {n:Nat} {w:World} {l:List Timer} (h:WI n w) (hx:l.length≤n):WI n { w with Due:=l }:={ h with d:=⟨hx,fun _ _=>trivial⟩ }
theorem WI.cs {n:Nat} {w:World} {l:List Verdict} (h:WI n w) (hx:l.length≤n):WI n { w with Cache:=l }:={ h with v:=⟨hx,fun _ _=>trivial⟩ }
theorem WI.ww {n:Nat} {w:World} {x:Wheel} (h:WI n w) (hx:Wheel.bd 48 x):WI n { w with W:=x }:={ h with wb:=hx }
theorem WI.free {n:Nat} {w:World} {t r u i:Int} {s:Bool} {b:Bucket} (h:WI n w):WI n { w with Time:=t,Shut:=s,RuleHeld:=r,B:=b,Used:=u,Next:=i }:={ h with }
theorem WI.mix {n:Nat} {v a b c d e:World} (h:WI n v) (ha:WI n a) (hb:WI n b) (hc:WI n c) (hd:WI n d) (he:WI n e):WI n { v with St:=a.St,Cache:=b.Cache,Due:=c.Due,Queue:=d.Queue,Out:=e.Out } :=
 { h with sl:=ha.sl,s:=ha.s,v:=hb.v,d:=hc.d,q:=hd.q,o:=he.o }
theorem WI.sk {n:Nat} {w:World} {k:Nat} {a:Int} {l:List Trail} (h:WI n w) (hx:bdS Trail.bd n l):WI n { w with St:=w.St.set k (Stripe.mk a l) }:=h.st hx
theorem uU {σ ρ:Type} {P:σ→Prop} {Q:ρ→Prop} {st:Step σ ρ} {k:σ→ρ} (h:(∀v,st=.next v→P v)∧(∀v,st=.stop v→P v)∧∀r,st=.done r→Q r) (hk:∀v,P v→Q (k v)):Q (Step.get k st):=by
 cases st with
 | next v=>exact hk v (h.1 v rfl)
 | stop v=>exact hk v (h.2.1 v rfl)
 | done r=>exact h.2.2 r rfl
def WR (m:Nat) (z:Bool×World):Prop:=WI m z.2
theorem WI.pc {n:Nat} {w:World} {k:Nat} {x:Task} (h:WI n w) (hb:Task.bd n x) (ho:x.Op≠0→0≤x.H∧x.H < ((w.Deeds.length:Nat):Int)) (hp:x.Op≠2∨x.Pc=0∨x.Pc=1∨x.Pc=2):WI n { w with Tasks:=w.Tasks.set k x } :=
 h.tk hb ho (fun h2 h3=>by rcases hp with hp | hp;exact absurd h2 hp;exact absurd hp h3)
theorem a9m {n m:Nat} {w:World} (h:WI n w) (hm:n+1≤m) {x:Item} (hx:Span.bd n x.S):bdS Item.bd m (w.Queue++[x]):=a8k h.q hm (nN (by omega)) (nM (by omega) _ hx)
theorem WI.mixE {n:Nat} {v p:World} (hv:WI n v) (h:WI n p):WR n (aZ v fun (v4:World)=>(true,{ v4 with Cache:=p.Cache,Due:=p.Due,Queue:=p.Queue,Out:=p.Out })):=hv.mix hv h h h h
theorem oF {α:Type} [Inhabited α] {l:List α} {k:Nat} (h:k < l.length):l[k]?.getD default∈l:=by
 rw [List.getElem?_eq_getElem h];exact List.getElem_mem h
theorem c3m (n:Int):IntKind.i64.wrap n=if 9223372036854775808≤n % 18446744073709551616 then n % 18446744073709551616 - 18446744073709551616 else n % 18446744073709551616:=by
 simp [IntKind.wrap,IntKind.bits,IntKind.signed]
theorem a5r (a b:Int):IntKind.i64.wrap (IntKind.i64.wrap a+b)=IntKind.i64.wrap (a+b):=by
 rw [c3m,c3m,c3m]
 split <;> split <;> split <;> omega
theorem c5j (a:Int):IntKind.i64.wrap (IntKind.i64.wrap a)=IntKind.i64.wrap a:=by
 have:=a5r a 0
 simpa using this
def aY {α:Type} (f:α→Int):List α→Int
 | []=>0
 | a :: l=>f a+aY f l
theorem uM {α:Type} (f:α→Int):∀(l m:List α),aY f (l++m)=aY f l+aY f m
 | [],m=>by simp [aY]
 | a :: l,m=>by simp only [List.cons_append,aY,uM f l m];omega
theorem xC {α ρ:Type} {f:α→Int} {b:Nat→Int→α→Step Int ρ}:∀(l:List α) (i:Nat) (s:Int),IntKind.i64.wrap s=s→(∀i s,∀a∈l,IntKind.i64.wrap s=s→b i s a=.next (IntKind.i64.wrap (s+f a)))→aJ b i s l=.fin (IntKind.i64.wrap (s+aY f l))
 | [],i,s,hs,hb=>by simp [aJ,aY,hs]
 | a :: l,i,s,hs,hb=>by
   unfold aJ
   rw [hb i s a (by simp) hs]
   simp only
   rw [xC l (i+1) _ (c5j _) (fun i s x hx=>hb i s x (by simp [hx])),a5r,aY,Int.add_assoc]
theorem yC {α β ρ:Type} {f:α→List β} {b:Nat→List β→α→Step (List β) ρ} (hb:∀i s a,b i s a=.next (s++f a)):∀(l:List α) (i:Nat) (s:List β),aJ b i s l=.fin (s++l.flatMap f)
 | [],i,s=>by simp [aJ]
 | a :: l,i,s=>by
   unfold aJ
   rw [hb]
   simp only
   rw [yC hb l (i+1),List.flatMap_cons,List.append_assoc]
structure CurOk (c:Cur):Prop where
 i0:0≤c.f_i
 i1:c.f_i≤(c.f_b.length:Int)
 l:c.f_b.length≤4611686018427387904
theorem d3n (a:Int):0≤iE .i64 a 255∧iE .i64 a 255≤255:=by
 unfold iE
 have h:(BitVec.toNat (BitVec.ofInt IntKind.i64.bits a &&& BitVec.ofInt IntKind.i64.bits 255))≤255:=by
  rw [BitVec.toNat_and]
  exact Nat.le_trans Nat.and_le_right (by decide)
 generalize BitVec.toNat (BitVec.ofInt IntKind.i64.bits a &&& BitVec.ofInt IntKind.i64.bits 255)=n at h
 rw [wrap_small (n:=(n:Int)) (by omega) (by omega)]
 omega
theorem sT {σ ρ:Type} {b:Nat→σ→Step σ ρ} {P:Nat→σ→Prop} (h:∀i s,P i s→∃v,b i s=.next v∧P (i+1) v):∀(n i:Nat) (s:σ),P i s→∃v,cJ b i s n=.fin v∧P (i+n) v
 | 0,i,s,hs=>⟨s,rfl,hs⟩
 | n+1,i,s,hs=>by
   obtain ⟨v,e,hv⟩:=h i s hs
   obtain ⟨u,e',hu⟩:=sT h n (i+1) v hv
   exact ⟨u,by unfold cJ;rw [e];exact e',by rw [show i+(n+1)=i+1+n by omega];exact hu⟩
theorem aH {β:Type} {P:β→Prop} {c:Bool} {a b:β} (ha:c=true→P a) (hb:c=false→P b):P (bif c then a else b):=by
 cases c
 · exact hb rfl
 · exact ha rfl
def kP {α:Type} (z:α×Cur):Prop:=CurOk z.2
theorem lG {α β:Type} {x:α×Cur} {k:α×Cur→β×Cur} (h:CurOk x.2) (hk:∀v:α×Cur,CurOk v.2→kP (k v)):kP (aZ x k):=hk x h
theorem a1k {β:Type} {c:Bool} {a b:β×Cur} (ha:kP a) (hb:kP b):kP (bif c then a else b):=by
 cases c
 · exact hb
 · exact ha
theorem tR {β:Type} {a:β} {c:Cur} (h:CurOk c):kP (a,c):=h
theorem okE {α:Type} {x v:α×Cur} (e:v=x) (h:CurOk x.2):CurOk v.2:=by rw [e];exact h
def StC {σ ρ:Type} (P:σ→Prop) (st:Step σ (ρ×Cur)):Prop:=(∀v,st=.next v→P v)∧(∀v,st=.stop v→P v)∧∀r,st=.done r→kP r
theorem c3o {σ ρ:Type} {P:σ→Prop} {st:Step σ (ρ×Cur)} {k:σ→ρ×Cur} (h:StC P st) (hk:∀v,P v→kP (k v)):kP (Step.get k st):=by
 cases st with
 | next v=>exact hk v (h.1 v rfl)
 | stop v=>exact hk v (h.2.1 v rfl)
 | done r=>exact h.2.2 r rfl
theorem d6o {σ ρ:Type} {P:σ→Prop} {l:Fin σ (ρ×Cur)} {k:σ→ρ×Cur} (h:(∀v,l=.fin v→P v)∧∀r,l=.done r→kP r) (hk:∀v,P v→kP (k v)):kP (Fin.get k l):=lF (Q:=kP) h hk
theorem StC.nx {σ ρ:Type} {P:σ→Prop} {v:σ} (h:P v):StC P (Step.next v:Step σ (ρ×Cur)):=dD h
theorem StC.st {σ ρ:Type} {P:σ→Prop} {v:σ} (h:P v):StC P (Step.stop v:Step σ (ρ×Cur)):=rC h
theorem StC.dn {σ ρ:Type} {P:σ→Prop} {r:ρ×Cur} (h:kP r):StC P (Step.done r:Step σ (ρ×Cur)):=fV h
theorem StC.bif {σ ρ:Type} {P:σ→Prop} {c:Bool} {a b:Step σ (ρ×Cur)} (ha:StC P a) (hb:StC P b):StC P (bif c then a else b):=cO ha hb
theorem StC.bind {σ ρ α:Type} {P:σ→Prop} {x:α×Cur} {k:α×Cur→Step σ (ρ×Cur)} (h:CurOk x.2) (hk:∀v:α×Cur,CurOk v.2→StC P (k v)):StC P (aZ x k):=hk x h
def eU (p0:Cur):(Int×Cur) :=
 (bif (decide (p0.f_i < (((p0.f_b).length:Nat):Int))) then ((iE .i64 (IntKind.i64.wrap ((iE .i64 (rL .i64 (wW .i64 (IntKind.i64.wrap ((IntKind.i64.wrap (p0.f_h*6364136223846793005))+1442695040888963407)) 33) (wW .i64 (IntKind.i64.wrap ((IntKind.i64.wrap (p0.f_h*6364136223846793005))+1442695040888963407)) 47)) 255)+(IntKind.i64.wrap (p0.f_b[(p0.f_i).toNat]?.getD default)))) 255),(Cur.mk p0.f_b (IntKind.i64.wrap (p0.f_i+1)) (IntKind.i64.wrap ((IntKind.i64.wrap (p0.f_h*6364136223846793005))+1442695040888963407)))) else ((iE .i64 (rL .i64 (wW .i64 (IntKind.i64.wrap ((IntKind.i64.wrap (p0.f_h*6364136223846793005))+1442695040888963407)) 33) (wW .i64 (IntKind.i64.wrap ((IntKind.i64.wrap (p0.f_h*6364136223846793005))+1442695040888963407)) 47)) 255),(Cur.mk p0.f_b p0.f_i (IntKind.i64.wrap ((IntKind.i64.wrap (p0.f_h*6364136223846793005))+1442695040888963407)))))
theorem vC (p0:Cur) (hs:CurOk p0):FnOk prog 122 [.tup [.one (.b ((Cur.cells false) p0))]] ⟨.one (.v (.int .i64 (eU p0).1)),[.one (.b ((Cur.cells false) (eU p0).2))],[],false⟩:=by
 refine FnOk.introV (E:=env) aK aS func122 rfl (by kernel_rfl) rfl ?_
 have hg:=eU.eq_1 p0
 have hown:(false=false→∀g:(Int×Cur),AV.Own (AV.one (.v (.int .i64 g.1))))∧(fun g:(Int×Cur)=>(Cur.cells false) g.2)=_∧(fun g:(Int×Cur)=>AV.one (.v (.int .i64 g.1)))=_:=⟨fun _ g=>.v _,rfl,rfl⟩
 exact aA (aA (aA (.inl ⟨by kernel_rfl,bK (by (omega)) (bK (by (omega)) (aA (aA (.inl ⟨by kernel_rfl,bJ fun hN1=>brD hg (fun hg h2=>aA (.inl ⟨by kernel_rfl,lA (l:=p0.f_b) (by have q:=hs.i0;omega) (fun hq3=>aA (bO hown hg))⟩)) (fun hg h2=>aA (bO hown hg))⟩))))⟩)))
theorem qJ {c:Cur} (h:CurOk c):CurOk (eU c).2:=by
 obtain ⟨h1,h2,h3⟩:=h
 unfold eU
 by_cases hc:c.f_i < ((c.f_b.length:Nat):Int)
 · rw [decide_eq_true hc,cond_true,wrap_small (n:=c.f_i+1) (by omega) (by omega)]
   exact ⟨by show 0≤c.f_i+1;omega,by show c.f_i+1≤((c.f_b.length:Nat):Int);omega,h3⟩
 · rw [decide_eq_false hc,cond_false]
   exact ⟨h1,h2,h3⟩
theorem a7p (c:Cur):0≤(eU c).1∧(eU c).1≤255:=by
 unfold eU
 cases decide (c.f_i < ((c.f_b.length:Nat):Int)) <;> exact d3n _
def aG (p0:Cur) (p1:Int):(Int×Cur) :=
 (bif (decide (p1≤0)) then (0,p0) else (bif (decide (p1≤256)) then (aZ (eU p0) fun (v1:(Int×Cur))=>((Int.tmod v1.1 p1),v1.2)) else (aZ (eU p0) fun (v2:(Int×Cur))=>(aZ (eU v2.2) fun (v3:(Int×Cur))=>(aZ (eU v3.2) fun (v4:(Int×Cur))=>((Int.tmod (IntKind.i64.wrap ((IntKind.i64.wrap ((IntKind.i64.wrap (v2.1*65536))+(IntKind.i64.wrap (v3.1*256))))+v4.1)) p1),v4.2))))))
theorem dB (p0:Cur) (p1:Int) (hs:CurOk p0):FnOk prog 77 [.tup [.one (.b ((Cur.cells false) p0))],.one (.v (.int .i64 p1))] ⟨.one (.v (.int .i64 (aG p0 p1).1)),[.one (.b ((Cur.cells false) (aG p0 p1).2))],[],false⟩:=by
 refine FnOk.introV (E:=env) aK aS func77 rfl (by kernel_rfl) rfl ?_
 have hg:=aG.eq_1 p0 p1
 have hown:(false=false→∀g:(Int×Cur),AV.Own (AV.one (.v (.int .i64 g.1))))∧(fun g:(Int×Cur)=>(Cur.cells false) g.2)=_∧(fun g:(Int×Cur)=>AV.one (.v (.int .i64 g.1)))=_:=⟨fun _ g=>.v _,rfl,rfl⟩
 exact aA (aA (aA (brD hg (fun hg h1=>aA (bO hown hg)) (fun hg h1=>aA (aA (brD hg (fun hg h2=>aA (.inr ⟨0,[],fun us3 hu3=>⟨_,(.same _),_,_,_,_,_,vC p0 (by assumption),(FzAs.same _),(.same _),trivial,(Int×Cur),(eU p0),(fun g=>(Cur.cells false) g.2),(fun g=>.one (.v (.int .i64 g.1))),rfl,rfl,fun v1 hvv1=>aB (m:=3) rfl (have hz4:=okE hvv1 (qJ (by assumption));aB (m:=3) rfl (have hg:=bG hvv1 hg;bK (by (omega)) (bO hown hg)))⟩⟩)) (fun hg h2=>aA (.inr ⟨0,[],fun us5 hu5=>⟨_,(.same _),_,_,_,_,_,vC p0 (by assumption),(FzAs.same _),(.same _),trivial,(Int×Cur),(eU p0),(fun g=>(Cur.cells false) g.2),(fun g=>.one (.v (.int .i64 g.1))),rfl,rfl,fun v2 hvv2=>aB (m:=3) rfl (have hz6:=okE hvv2 (qJ (by assumption));aB (m:=3) rfl (have hg:=bG hvv2 hg;aA (.inr ⟨0,[],fun us7 hu7=>⟨_,(.same _),_,_,_,_,_,vC v2.2 (by assumption),(FzAs.same _),(.same _),trivial,(Int×Cur),(eU v2.2),(fun g=>(Cur.cells false) g.2),(fun g=>.one (.v (.int .i64 g.1))),rfl,rfl,fun v3 hvv3=>aB (m:=4) rfl (have hz8:=okE hvv3 (qJ (by assumption));aB (m:=4) rfl (have hg:=bG hvv3 hg;aA (.inr ⟨0,[],fun us9 hu9=>⟨_,(.same _),_,_,_,_,_,vC v3.2 (by assumption),(FzAs.same _),(.same _),trivial,(Int×Cur),(eU v3.2),(fun g=>(Cur.cells false) g.2),(fun g=>.one (.v (.int .i64 g.1))),rfl,rfl,fun v4 hvv4=>aB (m:=5) rfl (have hz10:=okE hvv4 (qJ (by assumption));aB (m:=5) rfl (have hg:=bG hvv4 hg;aA (bK (by (omega)) (bO hown hg))))⟩⟩)))⟩⟩)))⟩⟩))))))))
theorem bI {c:Cur} {n:Int} (h:CurOk c):CurOk (aG c n).2:=by
 unfold aG
 simp only [aZ]
 cases decide (n≤0)
 · cases decide (n≤256)
   · exact qJ (qJ (qJ h))
   · exact qJ h
 · exact h
theorem iT (c:Cur) {n:Int} (h0:0 < n) (h1:n≤9223372036854775807):0≤(aG c n).1∧(aG c n).1 < n:=by
 unfold aG
 simp only [aZ]
 rw [decide_eq_false (show ¬n≤0 by omega),cond_false]
 have tm:∀x:Int,0≤x→0≤Int.tmod x n∧Int.tmod x n < n:=fun x hx=>⟨Int.tmod_nonneg n hx,Int.tmod_lt_of_pos x h0⟩
 have b1:=a7p c
 cases decide (n≤256)
 · refine tm _ ?_
   have b2:=a7p (eU c).2
   have b3:=a7p (eU (eU c).2).2
   simp (disch:=omega) only [wrap_small]
   omega
 · exact tm _ b1.1
theorem fS {c:Cur} {n:Int} {v:Int×Cur} (e:v=aG c n):0 < n→n≤9223372036854775807→0≤v.1∧v.1 < n:=fun h0 h1=>by rw [e];exact iT c h0 h1
def bM (p0:Cur) (p1:(List Int)):(Int×Cur) :=
 (aZ (aG p0 (((p1).length:Nat):Int)) fun (v1:(Int×Cur))=>((p1[(v1.1).toNat]?.getD default),v1.2))
theorem gN (p0:Cur) (p1:(List Int)) (hs:CurOk p0∧0 < p1.length∧p1.length≤256):FnOk prog 115 [.tup [.one (.b ((Cur.cells false) p0))],.one (.s false 1 (List.map mN p1))] ⟨.one (.v (.int .i64 (bM p0 p1).1)),[.one (.b ((Cur.cells false) (bM p0 p1).2))],[],false⟩:=by
 refine FnOk.introV (E:=env) aK aS func115 rfl (by kernel_rfl) rfl ?_
 have hg:=bM.eq_1 p0 p1
 have hown:(false=false→∀g:(Int×Cur),AV.Own (AV.one (.v (.int .i64 g.1))))∧(fun g:(Int×Cur)=>(Cur.cells false) g.2)=_∧(fun g:(Int×Cur)=>AV.one (.v (.int .i64 g.1)))=_:=⟨fun _ g=>.v _,rfl,rfl⟩
 exact aA (aA (bJ fun hN1=>.inr ⟨0,[],fun us2 hu2=>⟨_,(.same _),_,_,_,_,_,dB p0 (((p1).length:Nat):Int) (by exact hs.1),(FzAs.same _),(.same _),trivial,(Int×Cur),(aG p0 (((p1).length:Nat):Int)),(fun g=>(Cur.cells false) g.2),(fun g=>.one (.v (.int .i64 g.1))),rfl,rfl,fun v1 hvv1=>aB (m:=3) rfl (have hz3:=okE hvv1 (bI (by exact hs.1));have hlB:=fS hvv1;aB (m:=3) rfl (have hg:=bG hvv1 hg;lA (l:=p1) (by have q:=iT p0 (n:=((p1.length:Nat):Int)) (by have:=hs.2.1;omega) (by have:=hs.2.2;omega);rw [←hvv1] at q;omega) (fun hq4=>bO hown hg)))⟩⟩))
theorem eG {c:Cur} {l:List Int} (h:CurOk c):CurOk (bM c l).2:=by
 show kP (bM c l)
 unfold bM
 repeat' (with_reducible (first | assumption | refine lG ?_ (fun v hv=>?_) | refine tR ?_ | refine bI ?_))
def dR (p0:Cur) (p1:(List ByteArray)):(ByteArray×Cur) :=
 (aZ (aG p0 (((p1).length:Nat):Int)) fun (v1:(Int×Cur))=>((p1[(v1.1).toNat]?.getD default),v1.2))
theorem mL (p0:Cur) (p1:(List ByteArray)) (hs:CurOk p0∧0 < p1.length∧p1.length≤256):FnOk prog 154 [.tup [.one (.b ((Cur.cells false) p0))],.one (.s false 1 (List.map c9n p1))] ⟨.one (.v (.string (dR p0 p1).1)),[.one (.b ((Cur.cells false) (dR p0 p1).2))],[],false⟩:=by
 refine FnOk.introV (E:=env) aK aS func154 rfl (by kernel_rfl) rfl ?_
 have hg:=dR.eq_1 p0 p1
 have hown:(false=false→∀g:(ByteArray×Cur),AV.Own (AV.one (.v (.string g.1))))∧(fun g:(ByteArray×Cur)=>(Cur.cells false) g.2)=_∧(fun g:(ByteArray×Cur)=>AV.one (.v (.string g.1)))=_:=⟨fun _ g=>.v _,rfl,rfl⟩
 exact aA (aA (bJ fun hN1=>.inr ⟨0,[],fun us2 hu2=>⟨_,(.same _),_,_,_,_,_,dB p0 (((p1).length:Nat):Int) (by exact hs.1),(FzAs.same _),(.same _),trivial,(Int×Cur),(aG p0 (((p1).length:Nat):Int)),(fun g=>(Cur.cells false) g.2),(fun g=>.one (.v (.int .i64 g.1))),rfl,rfl,fun v1 hvv1=>aB (m:=3) rfl (have hz3:=okE hvv1 (bI (by exact hs.1));have hlB:=fS hvv1;aB (m:=3) rfl (have hg:=bG hvv1 hg;lA (l:=p1) (by have q:=iT p0 (n:=((p1.length:Nat):Int)) (by have:=hs.2.1;omega) (by have:=hs.2.2;omega);rw [←hvv1] at q;omega) (fun hq4=>bO hown hg)))⟩⟩))
theorem kC {c:Cur} {l:List ByteArray} (h:CurOk c):CurOk (dR c l).2:=by
 show kP (dR c l)
 unfold dR
 repeat' (with_reducible (first | assumption | refine lG ?_ (fun v hv=>?_) | refine tR ?_ | refine bI ?_))
def fL (p0:Cur):(ByteArray×Cur) :=
 (aZ (dR p0 [(ByteArray.mk #[107]),(ByteArray.mk #[112,97,116,104]),(ByteArray.mk #[99,111,100,101]),(ByteArray.mk #[117,115,101,114])]) fun (v1:(ByteArray×Cur))=>(v1.1,v1.2))
theorem xW (p0:Cur) (hs:CurOk p0):FnOk prog 153 [.tup [.one (.b ((Cur.cells false) p0))]] ⟨.one (.v (.string (fL p0).1)),[.one (.b ((Cur.cells false) (fL p0).2))],[],false⟩:=by
 refine FnOk.introV (E:=env) aK aS func153 rfl (by kernel_rfl) rfl ?_
 have hg:=fL.eq_1 p0
 have hown:(false=false→∀g:(ByteArray×Cur),AV.Own (AV.one (.v (.string g.1))))∧(fun g:(ByteArray×Cur)=>(Cur.cells false) g.2)=_∧(fun g:(ByteArray×Cur)=>AV.one (.v (.string g.1)))=_:=⟨fun _ g=>.v _,rfl,rfl⟩
 exact aA (aA (.inr (.inr ⟨0,[],fun us1 hu1=>⟨_,(.same _),_,_,_,_,_,mL p0 [(ByteArray.mk #[107]),(ByteArray.mk #[112,97,116,104]),(ByteArray.mk #[99,111,100,101]),(ByteArray.mk #[117,115,101,114])] (by exact ⟨by assumption,by simp,by simp⟩),(FzAs.same _),(.same _),trivial,(ByteArray×Cur),(dR p0 [(ByteArray.mk #[107]),(ByteArray.mk #[112,97,116,104]),(ByteArray.mk #[99,111,100,101]),(ByteArray.mk #[117,115,101,114])]),(fun g=>(Cur.cells false) g.2),(fun g=>.one (.v (.string g.1))),rfl,rfl,fun v1 hvv1=>aB (m:=3) rfl (have hz2:=okE hvv1 (kC (by assumption));aB (m:=3) rfl (have hg:=bG hvv1 hg;bO hown hg))⟩⟩)))
theorem tS {c:Cur} (h:CurOk c):CurOk (fL c).2:=by
 show kP (fL c)
 unfold fL
 repeat' (with_reducible (first | assumption | refine lG ?_ (fun v hv=>?_) | refine tR ?_ | refine kC ?_))
def kF (p1:Int) (v1:(Int×Cur)):Step ((List Int)×Int×Int×Int) (Pol×Cur) :=
 (bif (p1==1) then (bif (decide (v1.1≥7)) then (aZ (aG v1.2 6) fun (v2:(Int×Cur))=>(.next (v2.2.f_b,v2.2.f_i,v2.2.f_h,(IntKind.i64.wrap (1+v2.1))))) else (.next (v1.2.f_b,v1.2.f_i,v1.2.f_h,v1.1))) else (.next (v1.2.f_b,v1.2.f_i,v1.2.f_h,v1.1)))
def kE (s1:(List Int)×Int×Int×Int):Step (Bool) (Pol×Cur) :=
 (bif (s1.2.2.2==7) then (.next (s1.2.2.2==7)) else (.next (s1.2.2.2==8)))
def xD (r0:((Cur)→(Int)→((Pol×Cur)))) (p1:Int) (s3:(List Pol)×(List Int)×Int×Int×Int):Step ((List Pol)×(List Int)×Int×Int×Int) (Pol×Cur) :=
 (bif (decide (s3.2.2.2.2 > 0)) then (aZ (r0 (Cur.mk s3.2.1 s3.2.2.1 s3.2.2.2.1) (IntKind.i64.wrap (p1 - 1))) fun (v9:(Pol×Cur))=>(.next ((s3.1++[v9.1]),v9.2.f_b,v9.2.f_i,v9.2.f_h,(IntKind.i64.wrap (s3.2.2.2.2 - 1))))) else (.stop (s3.1,s3.2.1,s3.2.2.1,s3.2.2.2.1,s3.2.2.2.2)))
def eL:Nat→(Cur)→(Int)→((Pol×Cur))
 | 0,_,_=>default
 | n+1,p0,p1=>(aZ (bM p0 [1,2,3,4,5,6,6,7,8,9]) fun (v1:(Int×Cur))=>(Step.get (fun s1=>(bif (s1.2.2.2==3) then (aZ (bM (Cur.mk s1.1 s1.2.1 s1.2.2.1) [0,1,5,20]) fun (v3:(Int×Cur))=>((Pol.mk s1.2.2.2 v3.1 (ByteArray.mk #[]) (ByteArray.mk #[]) ([]:List Pol)),v3.2)) else (bif (s1.2.2.2==4) then (aZ (fL (Cur.mk s1.1 s1.2.1 s1.2.2.1)) fun (v4:(ByteArray×Cur))=>(aZ (dR v4.2 [(ByteArray.mk #[97]),(ByteArray.mk #[98]),(ByteArray.mk #[111,107])]) fun (v5:(ByteArray×Cur))=>((Pol.mk s1.2.2.2 0 v4.1 v5.1 ([]:List Pol)),v5.2))) else (bif (s1.2.2.2==5) then (aZ (fL (Cur.mk s1.1 s1.2.1 s1.2.2.1)) fun (v6:(ByteArray×Cur))=>(aZ (bM v6.2 [0,1,200,500]) fun (v7:(Int×Cur))=>((Pol.mk s1.2.2.2 v7.1 v6.1 (ByteArray.mk #[]) ([]:List Pol)),v7.2))) else (Step.get (fun s2=>(bif s2 then (aZ (aG (Cur.mk s1.1 s1.2.1 s1.2.2.1) 2) fun (v8:(Int×Cur))=>(Fin.get (fun s3=>((Pol.mk s1.2.2.2 0 (ByteArray.mk #[]) (ByteArray.mk #[]) s3.1),(Cur.mk s3.2.1 s3.2.2.1 s3.2.2.2.1))) (eP (xD (eL n) p1) ((fun s:List Pol×List Int×Int×Int×Int=>s.2.2.2.2.toNat) (([]:List Pol),v8.2.f_b,v8.2.f_i,v8.2.f_h,(IntKind.i64.wrap (1+v8.1)))) (([]:List Pol),v8.2.f_b,v8.2.f_i,v8.2.f_h,(IntKind.i64.wrap (1+v8.1)))))) else (bif (s1.2.2.2==9) then (aZ ((eL n) (Cur.mk s1.1 s1.2.1 s1.2.2.1) (IntKind.i64.wrap (p1 - 1))) fun (v10:(Pol×Cur))=>((Pol.mk s1.2.2.2 0 (ByteArray.mk #[]) (ByteArray.mk #[]) [v10.1]),v10.2)) else ((Pol.mk s1.2.2.2 0 (ByteArray.mk #[]) (ByteArray.mk #[]) ([]:List Pol)),(Cur.mk s1.1 s1.2.1 s1.2.2.1))))) (kE s1)))))) (kF p1 v1)))
theorem l5K {p1:Int} {v:Int×Cur} {s:List Int×Int×Int×Int} (e:kF p1 v=.next s) (h:CurOk v.2):CurOk (Cur.mk s.1 s.2.1 s.2.2.1)∧(p1=1→s.2.2.2≤6):=by
 unfold kF at e
 by_cases h1:p1=1
 · subst h1
   rw [show ((1:Int)==1)=true from rfl,cond_true] at e
   by_cases h2:v.1≥7
   · rw [decide_eq_true h2,cond_true] at e
     unfold aZ at e
     have q:=iT v.2 (n:=6) (by omega) (by omega)
     have k:=bI (n:=6) h
     cases e
     refine ⟨k,fun _=>?_⟩
     show IntKind.i64.wrap (1+(aG v.2 6).1)≤6
     rw [wrap_small (by omega) (by omega)];omega
   · rw [decide_eq_false h2,cond_false] at e
     cases e
     exact ⟨h,fun _=>by show v.1≤6;omega⟩
 · rw [show (p1==1)=false by simpa using h1,cond_false] at e
   cases e
   exact ⟨h,fun h2=>absurd h2 h1⟩
theorem l5J {s:List Int×Int×Int×Int} {b:Bool} (e:kE s=.next b):b=true→s.2.2.2=7∨s.2.2.2=8:=by
 intro hb
 subst hb
 unfold kE at e
 by_cases h:s.2.2.2=7
 · exact .inl h
 · rw [show (s.2.2.2==7)=false by simpa using h,cond_false] at e
   exact .inr (by simpa using e)
theorem zT:∀(n:Nat) {c:Cur} {d:Int},CurOk c→CurOk (eL n c d).2
 | 0,c,d,h=>⟨Int.le_refl 0,Int.le_refl 0,Nat.zero_le _⟩
 | n+1,c,d,h=>by
   have ih:∀{c:Cur} {d:Int},CurOk c→CurOk (eL n c d).2:=zT n
   show kP (eL (n+1) c d)
   rw [eL.eq_2]
   refine lG (eG h) (fun v1 hv1=>?_)
   refine c3o (P:=fun s=>CurOk (Cur.mk s.1 s.2.1 s.2.2.1)) (by unfold kF;exact StC.bif (StC.bif (StC.bind (bI hv1) (fun v hv=>StC.nx hv)) (StC.nx hv1)) (StC.nx hv1)) (fun s hs=>?_)
   refine a1k (lG (eG hs) (fun v hv=>hv)) (a1k (lG (tS hs) (fun v hv=>lG (kC hv) (fun w hw=>hw))) (a1k (lG (tS hs) (fun v hv=>lG (eG hv) (fun w hw=>hw))) ?_))
   refine c3o (P:=fun _=>True) (by unfold kE;exact StC.bif (StC.nx trivial) (StC.nx trivial)) (fun b _=>?_)
   refine a1k (lG (bI hs) (fun v hv=>?_)) (a1k (lG (ih hs) (fun v hv=>hv)) hs)
   refine d6o (P:=fun s:List Pol×List Int×Int×Int×Int=>CurOk (Cur.mk s.2.1 s.2.2.1 s.2.2.2.1)) (vZ (P:=fun s:List Pol×List Int×Int×Int×Int=>CurOk (Cur.mk s.2.1 s.2.2.1 s.2.2.2.1)) (fun s hs=>?_) _ _ hv) (fun s hs=>hs)
   unfold xD
   exact StC.bif (StC.bind (ih hs) (fun v hv=>StC.nx hv)) (StC.st hs)
theorem a4u {n:Nat} {c:Cur} {d:Int} (h:CurOk c):CurOk (eL n c d).2:=zT n h
theorem b5b:∀(n:Nat) (p0:Cur) (p1:Int),p1.toNat < n→CurOk p0∧1≤p1∧p1≤100→FnOk prog 116 [.tup [.one (.b ((Cur.cells false) p0))],.one (.v (.int .i64 p1))] ⟨.agg (Pol.opn true (eL n p0 p1).1),[.one (.b ((Cur.cells false) (eL n p0 p1).2))],[],false⟩:=by
 intro n
 induction n with
 | zero=>intro p0 p1 hd0;omega
 | succ n ih =>
   intro p0 p1 hd0 hs
   refine FnOk.introV (E:=env) aK aS func116 rfl (by kernel_rfl) rfl ?_
   have hg:eL (n+1) p0 p1=_:=eL.eq_2 ..
   have hown:(false=false→∀g:(Pol×Cur),AV.Own (AV.agg (Pol.opn true g.1)))∧(fun g:(Pol×Cur)=>(Cur.cells false) g.2)=_∧(fun g:(Pol×Cur)=>AV.agg (Pol.opn true g.1))=_:=⟨fun _ g=>b8m _,rfl,rfl⟩
   refine aA ?_
   refine aB (m:=2) rfl ?_
   refine aA ?_
   refine .inr ?_
   refine .inr ⟨0,[],fun us1 hu1=>⟨_,(.same _),_,_,_,_,_,gN p0 [1,2,3,4,5,6,6,7,8,9] (by have k1:=hs.2.1;have k2:=hs.2.2;exact ⟨by exact hs.1,by simp,by simp⟩),(FzAs.same _),(.same _),trivial,(Int×Cur),(bM p0 [1,2,3,4,5,6,6,7,8,9]),(fun g=>(Cur.cells false) g.2),(fun g=>.one (.v (.int .i64 g.1))),rfl,rfl,fun v1 hvv1=>?_⟩⟩
   refine aB (m:=4) rfl ?_
   have hz2:=okE hvv1 (eG (by exact hs.1))
   refine aB (m:=4) rfl ?_
   have hg:=bG hvv1 hg
   refine aB (m:=4) rfl ?_
   refine eA hg [0,1,4,5] (fun x1=>[]) (fun x1=>[.new ⟨3,true,[[.s false 1 (List.map cU8 x1.s.1),.v (.int .i64 x1.s.2.1),.v (.int .i64 x1.s.2.2.1)]],0⟩,.dead,.keep 2,.dead,.new ⟨5,true,[[.v (.int .i64 x1.s.2.2.2),.v (.int .i64 0),.v (.string (ByteArray.mk #[])),.v (.string (ByteArray.mk #[])),.s true 5 (List.map (Pol.cells true) ([]:List Pol))]],0⟩,.dead]) (fun hb1=>?_) (fun x1 hg=>?_)
   · have hb1:=hb1.trans (kF.eq_1 ..)
     refine aA ?_
     refine brQ hb1 (fun hb1 h3=>?_) (fun hb1 h3=>.inl ⟨⟨_,hb1⟩,[some 0,none,some 2,none,some 4,none],(by repeat' constructor)⟩)
     refine brD hb1 (fun hb1 h4=>?_) (fun hb1 h4=>.inl ⟨⟨_,hb1⟩,[some 0,none,some 2,none,some 4,none],(by repeat' constructor)⟩)
     refine .inr ⟨0,[],fun us5 hu5=>⟨_,(.same _),_,_,_,_,_,dB v1.2 6 (by have k1:=hs.2.1;have k2:=hs.2.2;(assumption)),(FzAs.same _),(.same _),trivial,(Int×Cur),(aG v1.2 6),(fun g=>(Cur.cells false) g.2),(fun g=>.one (.v (.int .i64 g.1))),rfl,rfl,fun v2 hvv2=>?_⟩⟩
     refine aB (m:=6) rfl ?_
     have hz6:=okE hvv2 (bI (by assumption));have hlB:=fS hvv2
     refine aB (m:=6) rfl ?_
     have hb1:=bG hvv2 hb1
     exact .inl ⟨⟨_,hb1⟩,[some 0,none,some 2,none,some 4,none],(by repeat' constructor)⟩
   have hK:=l5K x1.e (by assumption)
   refine aA ?_
   refine aA ?_
   refine aA ?_
   refine brQ hg (fun hg h7=>?_) (fun hg h7=>?_)
   · refine .inr ?_
     refine .inr ⟨0,[],fun us8 hu8=>⟨_,(.same _),_,_,_,_,_,gN (Cur.mk x1.s.1 x1.s.2.1 x1.s.2.2.1) [0,1,5,20] (by have k1:=hs.2.1;have k2:=hs.2.2;exact ⟨by exact hK.1,by simp,by simp⟩),(FzAs.same _),(.same _),trivial,(Int×Cur),(bM (Cur.mk x1.s.1 x1.s.2.1 x1.s.2.2.1) [0,1,5,20]),(fun g=>(Cur.cells false) g.2),(fun g=>.one (.v (.int .i64 g.1))),rfl,rfl,fun v3 hvv3=>?_⟩⟩
     refine aB (m:=7) rfl ?_
     have hz9:=okE hvv3 (eG (by exact hK.1))
     refine aB (m:=7) rfl ?_
     have hg:=bG hvv3 hg
     refine aA ?_
     exact bO hown hg
   · refine aA ?_
     refine brQ hg (fun hg h10=>?_) (fun hg h10=>?_)
     · refine aA ?_
       refine .inr ⟨0,[],fun us11 hu11=>⟨_,(.same _),_,_,_,_,_,xW (Cur.mk x1.s.1 x1.s.2.1 x1.s.2.2.1) (by have k1:=hs.2.1;have k2:=hs.2.2;(exact hK.1)),(FzAs.same _),(.same _),trivial,(ByteArray×Cur),(fL (Cur.mk x1.s.1 x1.s.2.1 x1.s.2.2.1)),(fun g=>(Cur.cells false) g.2),(fun g=>.one (.v (.string g.1))),rfl,rfl,fun v4 hvv4=>?_⟩⟩
       refine aB (m:=7) rfl ?_
       have hz12:=okE hvv4 (tS (by exact hK.1))
       refine aB (m:=7) rfl ?_
       have hg:=bG hvv4 hg
       refine .inr ?_
       refine .inr ⟨0,[],fun us13 hu13=>⟨_,(.same _),_,_,_,_,_,mL v4.2 [(ByteArray.mk #[97]),(ByteArray.mk #[98]),(ByteArray.mk #[111,107])] (by have k1:=hs.2.1;have k2:=hs.2.2;exact ⟨by assumption,by simp,by simp⟩),(FzAs.same _),(.same _),trivial,(ByteArray×Cur),(dR v4.2 [(ByteArray.mk #[97]),(ByteArray.mk #[98]),(ByteArray.mk #[111,107])]),(fun g=>(Cur.cells false) g.2),(fun g=>.one (.v (.string g.1))),rfl,rfl,fun v5 hvv5=>?_⟩⟩
       refine aB (m:=8) rfl ?_
       have hz14:=okE hvv5 (kC (by assumption))
       refine aB (m:=8) rfl ?_
       have hg:=bG hvv5 hg
       refine aA ?_
       exact bO hown hg
     · refine aA ?_
       refine brQ hg (fun hg h15=>?_) (fun hg h15=>?_)
       · refine aA ?_
         refine .inr ⟨0,[],fun us16 hu16=>⟨_,(.same _),_,_,_,_,_,xW (Cur.mk x1.s.1 x1.s.2.1 x1.s.2.2.1) (by have k1:=hs.2.1;have k2:=hs.2.2;(exact hK.1)),(FzAs.same _),(.same _),trivial,(ByteArray×Cur),(fL (Cur.mk x1.s.1 x1.s.2.1 x1.s.2.2.1)),(fun g=>(Cur.cells false) g.2),(fun g=>.one (.v (.string g.1))),rfl,rfl,fun v6 hvv6=>?_⟩⟩
         refine aB (m:=7) rfl ?_
         have hz17:=okE hvv6 (tS (by exact hK.1))
         refine aB (m:=7) rfl ?_
         have hg:=bG hvv6 hg
         refine .inr ?_
         refine .inr ⟨0,[],fun us18 hu18=>⟨_,(.same _),_,_,_,_,_,gN v6.2 [0,1,200,500] (by have k1:=hs.2.1;have k2:=hs.2.2;exact ⟨by assumption,by simp,by simp⟩),(FzAs.same _),(.same _),trivial,(Int×Cur),(bM v6.2 [0,1,200,500]),(fun g=>(Cur.cells false) g.2),(fun g=>.one (.v (.int .i64 g.1))),rfl,rfl,fun v7 hvv7=>?_⟩⟩
         refine aB (m:=8) rfl ?_
         have hz19:=okE hvv7 (eG (by assumption))
         refine aB (m:=8) rfl ?_
         have hg:=bG hvv7 hg
         refine aA ?_
         exact bO hown hg
       · refine eA hg [0,1,4,5,25] (fun x2=>[(50,.one (.v (.bool x2.s)))]) (fun x2=>[.keep 0,.dead,.keep 2,.dead,.keep 4,.dead]) (fun hb2=>?_) (fun x2 hg=>?_)
         · have hb2:=hb2.trans (kE.eq_1 ..)
           refine aA ?_
           exact brQ hb2 (fun hb2 h20=>.inl ⟨⟨_,hb2⟩,[some 0,none,some 2,none,some 4,none],(by repeat' constructor)⟩) (fun hb2 h20=>.inl ⟨⟨_,hb2⟩,[some 0,none,some 2,none,some 4,none],(by repeat' constructor)⟩)
         have hJ:=l5J x2.e
         refine brE hg (fun hg h21=>?_) (fun hg h21=>?_)
         · refine aA ?_
           refine .inr ⟨0,[],fun us22 hu22=>⟨_,(.same _),_,_,_,_,_,dB (Cur.mk x1.s.1 x1.s.2.1 x1.s.2.2.1) 2 (by have k1:=hs.2.1;have k2:=hs.2.2;(exact hK.1)),(FzAs.same _),(.same _),trivial,(Int×Cur),(aG (Cur.mk x1.s.1 x1.s.2.1 x1.s.2.2.1) 2),(fun g=>(Cur.cells false) g.2),(fun g=>.one (.v (.int .i64 g.1))),rfl,rfl,fun v8 hvv8=>?_⟩⟩
           refine aB (m:=7) rfl ?_
           have hz23:=okE hvv8 (bI (by exact hK.1));have hlB:=fS hvv8
           refine aB (m:=7) rfl ?_
           have hg:=bG hvv8 hg
           refine a6s (m:=(fun s:List Pol×List Int×Int×Int×Int=>s.2.2.2.2.toNat)) (s0:=(([]:List Pol),v8.2.f_b,v8.2.f_i,v8.2.f_h,(IntKind.i64.wrap (1+v8.1)))) (fun s:List Pol×List Int×Int×Int×Int=>CurOk (Cur.mk s.2.1 s.2.2.1 s.2.2.2.1)∧0≤s.2.2.2.2∧(s.1.length:Int)+s.2.2.2.2≤2) hg (by have q:=hlB (by omega) (by omega);exact ⟨by assumption,by ((simp (disch:=omega) only [wrap_small,eS,eY,fP,fO,List.length_map,List.length_set] <;> omega)),by simp only [List.length_nil];((simp (disch:=omega) only [wrap_small,eS,eY,fP,fO,List.length_map,List.length_set] <;> omega))⟩) [0,1,4,5] (fun x3=>[(6,.one (.v (.int .i64 x3.s.2.2.2.2)))]) (fun x3=>[.new ⟨3,true,[[.s false 1 (List.map cU8 x3.s.2.1),.v (.int .i64 x3.s.2.2.1),.v (.int .i64 x3.s.2.2.2.1)]],0⟩,.dead,.keep 2,.dead,.new ⟨5,true,[[.v (.int .i64 x1.s.2.2.2),.v (.int .i64 0),.v (.string (ByteArray.mk #[])),.v (.string (ByteArray.mk #[])),.n 7 [] 1 0 (x3.s.1).length]],0⟩,.dead,.dead,.new ⟨5,false,List.map (Pol.cells true) x3.s.1,0⟩]) [some 0,none,some 2,none,some 4,none,none,none] ?_ (fun x3=>?_)
           · exact (by repeat' constructor)
           have hI3:=x3.hI
           try dsimp only at hI3
           have hb3:=x3.bdy.trans (xD.eq_1 ..)
           refine aA ?_
           refine aA ?_
           refine brD hb3 (fun hb3 h24=>?_) (fun hb3 h24=>?_)
           · refine aA ?_
             refine aA ?_
             refine .inr ⟨0,[],fun us25 hu25=>⟨_,(.same _),_,_,_,_,_,ih (Cur.mk x3.s.2.1 x3.s.2.2.1 x3.s.2.2.2.1) (IntKind.i64.wrap (p1 - 1)) (by have q1:=hs.2.1;have q2:=hs.2.2;((simp (disch:=omega) only [wrap_small,eS,eY,fP,fO,List.length_map,List.length_set] <;> omega))) (by have k1:=hs.2.1;have k2:=hs.2.2;(have q7:p1≠1:=(fun hp=>by have k3:=hK.2 hp;(have k4:=hJ (by assumption);omega));exact ⟨by exact hI3.1,by ((simp (disch:=omega) only [wrap_small,eS,eY,fP,fO,List.length_map,List.length_set] <;> omega)),by ((simp (disch:=omega) only [wrap_small,eS,eY,fP,fO,List.length_map,List.length_set] <;> omega))⟩)),(FzAs.same _),(.same _),trivial,(Pol×Cur),((eL n) (Cur.mk x3.s.2.1 x3.s.2.2.1 x3.s.2.2.2.1) (IntKind.i64.wrap (p1 - 1))),(fun g=>(Cur.cells false) g.2),(fun g=>.agg (Pol.opn true g.1)),rfl,rfl,fun v9 hvv9=>?_⟩⟩
             refine aB (m:=9) rfl ?_
             have hz26:=okE hvv9 (a4u (by exact hI3.1))
             refine aB (m:=9) rfl ?_
             have hb3:=bG hvv9 hb3
             refine aB (m:=10) rfl ?_
             refine .inl (aB (m:=11) rfl ?_)
             refine .inl ?_
             refine aV (Y:=List.map (Pol.cells true) (x3.s.1++[v9.1])) (by simp [bX,bP,-List.map_take,-List.map_drop,-List.drop_one,aQ,aR,a3t,bY a3t,iC b8d,Pol.cells_eq];rfl) ?_
             refine cS (b:=72) (hs:=by have q1:=hI3.2;refine ⟨?_,?_⟩;(show List.length _*72≤_);(try simp only [LN]);omega;(try simp only [LN]);omega;done) ?_
             refine aB (m:=12) rfl ?_
             exact x3.goE hb3 (show (fun s:List Pol×List Int×Int×Int×Int=>CurOk (Cur.mk s.2.1 s.2.2.1 s.2.2.2.1)∧0≤s.2.2.2.2∧(s.1.length:Int)+s.2.2.2.2≤2) ((x3.s.1++[v9.1]),v9.2.f_b,v9.2.f_i,v9.2.f_h,(IntKind.i64.wrap (x3.s.2.2.2.2 - 1)))∧(fun s:List Pol×List Int×Int×Int×Int=>s.2.2.2.2.toNat) ((x3.s.1++[v9.1]),v9.2.f_b,v9.2.f_i,v9.2.f_h,(IntKind.i64.wrap (x3.s.2.2.2.2 - 1))) < (fun s:List Pol×List Int×Int×Int×Int=>s.2.2.2.2.toNat) x3.s by have f2:=hI3.2;exact ⟨⟨by assumption,by ((simp (disch:=omega) only [wrap_small,eS,eY,fP,fO,List.length_map,List.length_set] <;> omega)),by simp only [List.length_append,List.length_cons,List.length_nil];((simp (disch:=omega) only [wrap_small,eS,eY,fP,fO,List.length_map,List.length_set] <;> omega))⟩,by ((simp (disch:=omega) only [wrap_small,eS,eY,fP,fO,List.length_map,List.length_set] <;> omega))⟩) [some 0,none,some 2,none,some 4,none,none,some 12] ⟨rfl,(by repeat' constructor),⟨(by repeat' constructor),(by repeat' constructor),⟨rfl,rfl,⟨rfl,rfl,rfl,rfl,⟨rfl,rfl,rfl,rfl,by ((simp [LstSt.init,LstSt.step,LstInv.init,CntSt.init,CntSt.step,CntInv.init,WhlSt.init,WhlSt.step];done))⟩,trivial⟩⟩,⟨rfl,rfl,rfl⟩,trivial⟩,⟨⟨rfl,rfl,rfl,rfl⟩,trivial⟩⟩
           · have hg:=bZ hg (x3.outS hb3)
             refine aA ?_
             exact bO hown hg
         · refine aA ?_
           refine brQ hg (fun hg h27=>?_) (fun hg h27=>?_)
           · refine aA ?_
             refine .inr ⟨0,[],fun us28 hu28=>⟨_,(.same _),_,_,_,_,_,ih (Cur.mk x1.s.1 x1.s.2.1 x1.s.2.2.1) (IntKind.i64.wrap (p1 - 1)) (by have q1:=hs.2.1;have q2:=hs.2.2;((simp (disch:=omega) only [wrap_small,eS,eY,fP,fO,List.length_map,List.length_set] <;> omega))) (by have k1:=hs.2.1;have k2:=hs.2.2;(have q7:p1≠1:=(fun hp=>by have k3:=hK.2 hp;omega);exact ⟨by exact hK.1,by ((simp (disch:=omega) only [wrap_small,eS,eY,fP,fO,List.length_map,List.length_set] <;> omega)),by ((simp (disch:=omega) only [wrap_small,eS,eY,fP,fO,List.length_map,List.length_set] <;> omega))⟩)),(FzAs.same _),(.same _),trivial,(Pol×Cur),((eL n) (Cur.mk x1.s.1 x1.s.2.1 x1.s.2.2.1) (IntKind.i64.wrap (p1 - 1))),(fun g=>(Cur.cells false) g.2),(fun g=>.agg (Pol.opn true g.1)),rfl,rfl,fun v10 hvv10=>?_⟩⟩
             refine aB (m:=7) rfl ?_
             have hz29:=okE hvv10 (a4u (by exact hK.1))
             refine aB (m:=7) rfl ?_
             have hg:=bG hvv10 hg
             refine aB (m:=8) rfl ?_
             refine .inl (aB (m:=9) rfl ?_)
             refine .inl ?_
             refine aV (Y:=List.map (Pol.cells true) [v10.1]) (by simp [bX,bP,-List.map_take,-List.map_drop,-List.drop_one,aQ,aR,a3t,bY a3t,iC b8d,Pol.cells_eq];rfl) ?_
             refine cS (b:=72) (hs:=by refine ⟨?_,?_⟩ <;> simp <;> omega) ?_
             refine aB (m:=10) rfl ?_
             refine aA ?_
             exact bO hown hg
           · refine aA ?_
             exact bO hown hg
def rD (p0:Cur) (p1:Int):(Pol×Cur):=eL (p1.toNat+1) p0 p1
theorem b6w (p0:Cur) (p1:Int) (hs:CurOk p0∧1≤p1∧p1≤100):FnOk prog 116 [.tup [.one (.b ((Cur.cells false) p0))],.one (.v (.int .i64 p1))] ⟨.agg (Pol.opn true (rD p0 p1).1),[.one (.b ((Cur.cells false) (rD p0 p1).2))],[],false⟩:=b5b _ p0 p1 (Nat.lt_succ_self _) hs
theorem c6a {c:Cur} {d:Int} (h:CurOk c):CurOk (rD c d).2:=zT _ h
theorem sU {c:Cur} {l:List Int} (h:0 < l.length∧l.length≤256):(bM c l).1∈l:=by
 have q:=iT c (n:=((l.length:Nat):Int)) (by omega) (by omega)
 exact oF (by omega)
theorem a6v {c:Cur} {l:List ByteArray} (h:0 < l.length∧l.length≤256):(dR c l).1∈l:=by
 have q:=iT c (n:=((l.length:Nat):Int)) (by omega) (by omega)
 exact oF (by omega)
def eZ (p0:Cur):(Conf×Cur) :=
 (aZ (aG p0 3) fun (v1:(Int×Cur))=>(aZ (bM v1.2 [1,2,3,9]) fun (v2:(Int×Cur))=>(aZ (bM v2.2 [40,60,90,190]) fun (v3:(Int×Cur))=>(aZ (aG v3.2 4) fun (v4:(Int×Cur))=>(aZ (aG v4.2 3) fun (v5:(Int×Cur))=>(aZ (aG v5.2 3) fun (v6:(Int×Cur))=>(aZ (bM v6.2 [0,1,2,4]) fun (v7:(Int×Cur))=>(aZ (rD v7.2 3) fun (v8:(Pol×Cur))=>((Conf.mk (IntKind.i64.wrap (1+v1.1)) v2.1 v3.1 (IntKind.i64.wrap (1+v4.1)) (IntKind.i64.wrap (1+v5.1)) v6.1 v7.1 v8.1),v8.2)))))))))
theorem b4m (p0:Cur) (hs:CurOk p0):FnOk prog 75 [.tup [.one (.b ((Cur.cells false) p0))]] ⟨.agg ((Conf.cells true) (eZ p0).1),[.one (.b ((Cur.cells false) (eZ p0).2))],[],false⟩:=by
 refine FnOk.introV (E:=env) aK aS func75 rfl (by kernel_rfl) rfl ?_
 have hg:=eZ.eq_1 p0
 have hown:(false=false→∀g:(Conf×Cur),AV.Own (AV.agg ((Conf.cells true) g.1)))∧(fun g:(Conf×Cur)=>(Cur.cells false) g.2)=_∧(fun g:(Conf×Cur)=>AV.agg ((Conf.cells true) g.1))=_:=⟨fun _ g=>b8l _,rfl,rfl⟩
 exact aA (aB (m:=2) rfl (aA (.inr ⟨0,[],fun us1 hu1=>⟨_,(.same _),_,_,_,_,_,dB p0 3 (by assumption),(FzAs.same _),(.same _),trivial,(Int×Cur),(aG p0 3),(fun g=>(Cur.cells false) g.2),(fun g=>.one (.v (.int .i64 g.1))),rfl,rfl,fun v1 hvv1=>aB (m:=4) rfl (have hz2:=okE hvv1 (bI (by assumption));have hlB:=fS hvv1;aB (m:=4) rfl (have hg:=bG hvv1 hg;.inr (.inr ⟨0,[],fun us3 hu3=>⟨_,(.same _),_,_,_,_,_,gN v1.2 [1,2,3,9] (by exact ⟨by assumption,by simp,by simp⟩),(FzAs.same _),(.same _),trivial,(Int×Cur),(bM v1.2 [1,2,3,9]),(fun g=>(Cur.cells false) g.2),(fun g=>.one (.v (.int .i64 g.1))),rfl,rfl,fun v2 hvv2=>aB (m:=5) rfl (have hz4:=okE hvv2 (eG (by assumption));aB (m:=5) rfl (have hg:=bG hvv2 hg;.inr (.inr ⟨0,[],fun us5 hu5=>⟨_,(.same _),_,_,_,_,_,gN v2.2 [40,60,90,190] (by exact ⟨by assumption,by simp,by simp⟩),(FzAs.same _),(.same _),trivial,(Int×Cur),(bM v2.2 [40,60,90,190]),(fun g=>(Cur.cells false) g.2),(fun g=>.one (.v (.int .i64 g.1))),rfl,rfl,fun v3 hvv3=>aB (m:=6) rfl (have hz6:=okE hvv3 (eG (by assumption));aB (m:=6) rfl (have hg:=bG hvv3 hg;.inr ⟨0,[],fun us7 hu7=>⟨_,(.same _),_,_,_,_,_,dB v3.2 4 (by assumption),(FzAs.same _),(.same _),trivial,(Int×Cur),(aG v3.2 4),(fun g=>(Cur.cells false) g.2),(fun g=>.one (.v (.int .i64 g.1))),rfl,rfl,fun v4 hvv4=>aB (m:=7) rfl (have hz8:=okE hvv4 (bI (by assumption));have hlB:=fS hvv4;aB (m:=7) rfl (have hg:=bG hvv4 hg;.inr ⟨0,[],fun us9 hu9=>⟨_,(.same _),_,_,_,_,_,dB v4.2 3 (by assumption),(FzAs.same _),(.same _),trivial,(Int×Cur),(aG v4.2 3),(fun g=>(Cur.cells false) g.2),(fun g=>.one (.v (.int .i64 g.1))),rfl,rfl,fun v5 hvv5=>aB (m:=8) rfl (have hz10:=okE hvv5 (bI (by assumption));have hlB:=fS hvv5;aB (m:=8) rfl (have hg:=bG hvv5 hg;.inr ⟨0,[],fun us11 hu11=>⟨_,(.same _),_,_,_,_,_,dB v5.2 3 (by assumption),(FzAs.same _),(.same _),trivial,(Int×Cur),(aG v5.2 3),(fun g=>(Cur.cells false) g.2),(fun g=>.one (.v (.int .i64 g.1))),rfl,rfl,fun v6 hvv6=>aB (m:=9) rfl (have hz12:=okE hvv6 (bI (by assumption));have hlB:=fS hvv6;aB (m:=9) rfl (have hg:=bG hvv6 hg;.inr (.inr ⟨0,[],fun us13 hu13=>⟨_,(.same _),_,_,_,_,_,gN v6.2 [0,1,2,4] (by exact ⟨by assumption,by simp,by simp⟩),(FzAs.same _),(.same _),trivial,(Int×Cur),(bM v6.2 [0,1,2,4]),(fun g=>(Cur.cells false) g.2),(fun g=>.one (.v (.int .i64 g.1))),rfl,rfl,fun v7 hvv7=>aB (m:=10) rfl (have hz14:=okE hvv7 (eG (by assumption));aB (m:=10) rfl (have hg:=bG hvv7 hg;.inr ⟨0,[],fun us15 hu15=>⟨_,(.same _),_,_,_,_,_,b6w v7.2 3 (by exact ⟨by assumption,by simp,by simp⟩),(FzAs.same _),(.same _),trivial,(Pol×Cur),(rD v7.2 3),(fun g=>(Cur.cells false) g.2),(fun g=>.agg (Pol.opn true g.1)),rfl,rfl,fun v8 hvv8=>aB (m:=11) rfl (have hz16:=okE hvv8 (a4u (by assumption));aB (m:=11) rfl (have hg:=bG hvv8 hg;bO hown hg))⟩⟩))⟩⟩)))⟩⟩))⟩⟩))⟩⟩))⟩⟩)))⟩⟩)))⟩⟩)))
theorem b1n {c:Cur} (h:CurOk c):CurOk (eZ c).2:=by
 show kP (eZ c)
 unfold eZ
 repeat' (with_reducible (first | assumption | refine lG ?_ (fun v hv=>?_) | refine tR ?_ | refine bI ?_ | refine eG ?_ | refine c6a ?_))
def cH (p0:Cur) (p1:Int):(Bool×Cur) :=
 (aZ (aG p0 p1) fun (v1:(Int×Cur))=>((v1.1==0),v1.2))
theorem jX (p0:Cur) (p1:Int) (hs:CurOk p0):FnOk prog 125 [.tup [.one (.b ((Cur.cells false) p0))],.one (.v (.int .i64 p1))] ⟨.one (.v (.bool (cH p0 p1).1)),[.one (.b ((Cur.cells false) (cH p0 p1).2))],[],false⟩:=by
 refine FnOk.introV (E:=env) aK aS func125 rfl (by kernel_rfl) rfl ?_
 have hg:=cH.eq_1 p0 p1
 have hown:(false=false→∀g:(Bool×Cur),AV.Own (AV.one (.v (.bool g.1))))∧(fun g:(Bool×Cur)=>(Cur.cells false) g.2)=_∧(fun g:(Bool×Cur)=>AV.one (.v (.bool g.1)))=_:=⟨fun _ g=>.v _,rfl,rfl⟩
 exact aA (aA (.inr ⟨0,[],fun us1 hu1=>⟨_,(.same _),_,_,_,_,_,dB p0 p1 (by assumption),(FzAs.same _),(.same _),trivial,(Int×Cur),(aG p0 p1),(fun g=>(Cur.cells false) g.2),(fun g=>.one (.v (.int .i64 g.1))),rfl,rfl,fun v1 hvv1=>aB (m:=3) rfl (have hz2:=okE hvv1 (bI (by assumption));have hlB:=fS hvv1;aB (m:=3) rfl (have hg:=bG hvv1 hg;bO hown hg))⟩⟩))
theorem fD {c:Cur} {n:Int} (h:CurOk c):CurOk (cH c n).2:=by
 show kP (cH c n)
 unfold cH
 repeat' (with_reducible (first | assumption | refine lG ?_ (fun v hv=>?_) | refine tR ?_ | refine bI ?_))
def gB (p0:Cur) (p1:ByteArray):(Attr×Cur) :=
 (aZ (cH p0 2) fun (v1:(Bool×Cur))=>(bif v1.1 then (aZ (bM v1.2 [0,1,5,200,500]) fun (v2:(Int×Cur))=>((Attr.mk p1 true v2.1 (ByteArray.mk #[])),v2.2)) else (aZ (dR v1.2 [(ByteArray.mk #[97]),(ByteArray.mk #[98]),(ByteArray.mk #[111,107]),(ByteArray.mk #[])]) fun (v3:(ByteArray×Cur))=>((Attr.mk p1 false 0 v3.1),v3.2))))
theorem qH (p0:Cur) (p1:ByteArray) (hs:CurOk p0):FnOk prog 159 [.tup [.one (.b ((Cur.cells false) p0))],.one (.v (.string p1))] ⟨.agg (Attr.cells (gB p0 p1).1),[.one (.b ((Cur.cells false) (gB p0 p1).2))],[],false⟩:=by
 refine FnOk.introV (E:=env) aK aS func159 rfl (by kernel_rfl) rfl ?_
 have hg:=gB.eq_1 p0 p1
 have hown:(false=false→∀g:(Attr×Cur),AV.Own (AV.agg (Attr.cells g.1)))∧(fun g:(Attr×Cur)=>(Cur.cells false) g.2)=_∧(fun g:(Attr×Cur)=>AV.agg (Attr.cells g.1))=_:=⟨fun _ g=>sQ _,rfl,rfl⟩
 exact aA (aB (m:=2) rfl (aA (aA (.inr ⟨0,[],fun us1 hu1=>⟨_,(.same _),_,_,_,_,_,jX p0 2 (by assumption),(FzAs.same _),(.same _),trivial,(Bool×Cur),(cH p0 2),(fun g=>(Cur.cells false) g.2),(fun g=>.one (.v (.bool g.1))),rfl,rfl,fun v1 hvv1=>aB (m:=4) rfl (have hz2:=okE hvv1 (fD (by assumption));aB (m:=4) rfl (have hg:=bG hvv1 hg;brE hg (fun hg h3=>aA (.inr (.inr ⟨0,[],fun us4 hu4=>⟨_,(.same _),_,_,_,_,_,gN v1.2 [0,1,5,200,500] (by exact ⟨by assumption,by simp,by simp⟩),(FzAs.same _),(.same _),trivial,(Int×Cur),(bM v1.2 [0,1,5,200,500]),(fun g=>(Cur.cells false) g.2),(fun g=>.one (.v (.int .i64 g.1))),rfl,rfl,fun v2 hvv2=>aB (m:=5) rfl (have hz5:=okE hvv2 (eG (by assumption));aB (m:=5) rfl (have hg:=bG hvv2 hg;bO hown hg))⟩⟩))) (fun hg h3=>aA (.inr (.inr ⟨0,[],fun us6 hu6=>⟨_,(.same _),_,_,_,_,_,mL v1.2 [(ByteArray.mk #[97]),(ByteArray.mk #[98]),(ByteArray.mk #[111,107]),(ByteArray.mk #[])] (by exact ⟨by assumption,by simp,by simp⟩),(FzAs.same _),(.same _),trivial,(ByteArray×Cur),(dR v1.2 [(ByteArray.mk #[97]),(ByteArray.mk #[98]),(ByteArray.mk #[111,107]),(ByteArray.mk #[])]),(fun g=>(Cur.cells false) g.2),(fun g=>.one (.v (.string g.1))),rfl,rfl,fun v3 hvv3=>aB (m:=5) rfl (have hz7:=okE hvv3 (kC (by assumption));aB (m:=5) rfl (have hg:=bG hvv3 hg;bO hown hg))⟩⟩)))))⟩⟩))))
theorem sR {c:Cur} {k:ByteArray} (h:CurOk c):CurOk (gB c k).2:=by
 show kP (gB c k)
 unfold gB
 repeat' (with_reducible (first | assumption | refine lG ?_ (fun v hv=>?_) | refine a1k ?_ ?_ | refine tR ?_ | refine fD ?_ | refine eG ?_ | refine kC ?_))
def tL (i1:Nat) (s1:(List Int)×Int×Int×(List Attr)):Step ((List Int)×Int×Int×(List Attr)) ((List Attr)×Cur) :=
 (aZ (cH (Cur.mk s1.1 s1.2.1 s1.2.2.1) 4) fun (v1:(Bool×Cur))=>(bif v1.1 then (aZ (gB v1.2 ([(ByteArray.mk #[99,111,100,101]),(ByteArray.mk #[102,97,105,108,101,100]),(ByteArray.mk #[107]),(ByteArray.mk #[112,97,116,104]),(ByteArray.mk #[117,115,101,114])][i1]?.getD default)) fun (v2:(Attr×Cur))=>(.next (v2.2.f_b,v2.2.f_i,v2.2.f_h,(s1.2.2.2++[v2.1])))) else (.next (v1.2.f_b,v1.2.f_i,v1.2.f_h,s1.2.2.2))))
def cX (p0:Cur):((List Attr)×Cur) :=
 (Fin.get (fun s1=>(s1.2.2.2,(Cur.mk s1.1 s1.2.1 s1.2.2.1))) (cJ tL 0 (p0.f_b,p0.f_i,p0.f_h,([]:List Attr)) ((5:Int)).toNat))
theorem zL (p0:Cur) (hs:CurOk p0):FnOk prog 124 [.tup [.one (.b ((Cur.cells false) p0))]] ⟨.one (.s true 4 (List.map Attr.cells (cX p0).1)),[.one (.b ((Cur.cells false) (cX p0).2))],[],false⟩:=by
 refine FnOk.introV (E:=env) aK aS func124 rfl (by kernel_rfl) rfl ?_
 have hg:=cX.eq_1 p0
 have hown:(false=false→∀g:((List Attr)×Cur),AV.Own (AV.one (.s true 4 (List.map Attr.cells g.1))))∧(fun g:((List Attr)×Cur)=>(Cur.cells false) g.2)=_∧(fun g:((List Attr)×Cur)=>AV.one (.s true 4 (List.map Attr.cells g.1)))=_:=⟨fun _ g=>fF sQ _,rfl,rfl⟩
 refine aA (aA (.inl (aB (m:=2) rfl (aA (aA (.inl (aB (m:=3) rfl (kD (k:=5) (by simp) (fun hN1=>a0v (fun (i:Nat) (s:List Int×Int×Int×List Attr)=>CurOk (Cur.mk s.1 s.2.1 s.2.2.1)∧s.2.2.2.length≤i) hg (⟨hs,Nat.zero_le _⟩) [0,7,8] (fun x1=>[(3,.one (.n 2 [] 1 0 (x1.s.2.2.2).length)),(9,.one (.v (.int .i64 ((x1.i:Nat):Int))))]) (fun x1=>[.new ⟨3,true,[[.s false 1 (List.map cU8 x1.s.1),.v (.int .i64 x1.s.2.1),.v (.int .i64 x1.s.2.2.1)]],0⟩,.dead,.new ⟨4,false,List.map Attr.cells x1.s.2.2.2,0⟩,.keep 3]) [some 0,none,some 2,some 3] ((by repeat' constructor)) (fun x1=>?_))))))))))
 have hI1:=x1.hI
 try dsimp only at hI1
 refine aA (aA (a4j (fun hi1=>have hb1:=(x1.bdy hi1).trans (tL.eq_1 ..);have hw1:=zQ hi1;aA (aA (bK (by ((simp;omega))) (cZ (enc:=c9n) (i:=x1.i) (l:=[(ByteArray.mk #[99,111,100,101]),(ByteArray.mk #[102,97,105,108,101,100]),(ByteArray.mk #[107]),(ByteArray.mk #[112,97,116,104]),(ByteArray.mk #[117,115,101,114])]) (by exact Nat.zero_add _) (fun hq2=>aA (.inr ⟨0,[],fun us3 hu3=>⟨_,(.same _),_,_,_,_,_,jX (Cur.mk x1.s.1 x1.s.2.1 x1.s.2.2.1) 4 (by exact hI1.1),(FzAs.same _),(.same _),trivial,(Bool×Cur),(cH (Cur.mk x1.s.1 x1.s.2.1 x1.s.2.2.1) 4),(fun g=>(Cur.cells false) g.2),(fun g=>.one (.v (.bool g.1))),rfl,rfl,fun v1 hvv1=>aB (m:=5) rfl (have hz4:=okE hvv1 (fD (by exact hI1.1));aB (m:=5) rfl (have hb1:=bG hvv1 hb1;brE hb1 (fun hb1 h5=>?_) (fun hb1 h5=>x1.goE hi1 hb1 (by refine ⟨by assumption,?_⟩;(have q1:=hI1.2;(try simp only [LN]);omega)) [some 0,none,some 2,some 3] ⟨rfl,⟨⟨rfl,rfl,rfl,rfl,by (rfl)⟩,(bA hw1),⟨rfl,rfl,rfl,rfl⟩,⟨rfl,rfl,rfl,rfl,by (rfl)⟩,rfl,trivial⟩,(by repeat' constructor),⟨⟨rfl,rfl,rfl,rfl⟩,trivial⟩⟩)))⟩⟩)))))) (fun hi1=>have hg:=bZ hg (x1.fin hi1);aA (bO hown hg))))
 refine .inr ⟨0,[],fun us6 hu6=>⟨_,(.same _),_,_,_,_,_,qH v1.2 ([(ByteArray.mk #[99,111,100,101]),(ByteArray.mk #[102,97,105,108,101,100]),(ByteArray.mk #[107]),(ByteArray.mk #[112,97,116,104]),(ByteArray.mk #[117,115,101,114])][x1.i]?.getD default) (by assumption),(FzAs.same _),(.same _),trivial,(Attr×Cur),(gB v1.2 ([(ByteArray.mk #[99,111,100,101]),(ByteArray.mk #[102,97,105,108,101,100]),(ByteArray.mk #[107]),(ByteArray.mk #[112,97,116,104]),(ByteArray.mk #[117,115,101,114])][x1.i]?.getD default)),(fun g=>(Cur.cells false) g.2),(fun g=>.agg (Attr.cells g.1)),rfl,rfl,fun v2 hvv2=>aB (m:=6) rfl (have hz7:=okE hvv2 (sR (by assumption));aB (m:=6) rfl (have hb1:=bG hvv2 hb1;.inl (aB (m:=6) rfl (.inl (aV (Y:=List.map Attr.cells (x1.s.2.2.2++[v2.1])) (by simp [bX,bP,-List.map_take,-List.map_drop,-List.drop_one,aQ,aR,oR,oT,bY oR,fH oT];rfl) (cS (b:=48) (hs:=by have q1:=hI1.2;have q2:=hi1;refine ⟨?_,?_⟩;(show List.length _*48≤_);(try simp only [LN]);omega;(try simp only [LN]);omega) ?_))))))⟩⟩
 exact aB (m:=7) rfl (x1.goE hi1 hb1 (by refine ⟨by assumption,?_⟩;(have q1:=hI1.2;(try simp only [LN]);omega)) [some 0,none,some 7,some 3] ⟨rfl,⟨⟨rfl,rfl,rfl,rfl,by ((simp [LstSt.init,LstSt.step,LstInv.init,CntSt.init,CntSt.step,CntInv.init,WhlSt.init,WhlSt.step];done))⟩,(bA hw1),⟨rfl,rfl,rfl,rfl⟩,⟨rfl,rfl,rfl,rfl,by (rfl)⟩,rfl,trivial⟩,(by repeat' constructor),⟨⟨rfl,rfl,rfl,rfl⟩,trivial⟩⟩)
theorem c4f {c:Cur} (h:CurOk c):∃v,cJ tL 0 (c.f_b,c.f_i,c.f_h,([]:List Attr)) 5=.fin v∧(CurOk (Cur.mk v.1 v.2.1 v.2.2.1)∧v.2.2.2.length≤0+5) :=
 sT (P:=fun i (s:List Int×Int×Int×List Attr)=>CurOk (Cur.mk s.1 s.2.1 s.2.2.1)∧s.2.2.2.length≤i) (fun i s hs=>by
  unfold tL
  simp only [aZ]
  cases (cH (Cur.mk s.1 s.2.1 s.2.2.1) 4).1
  · exact ⟨_,rfl,fD (n:=4) hs.1,by have:=hs.2;show s.2.2.2.length≤i+1;omega⟩
  · exact ⟨_,rfl,sR (fD hs.1),by have:=hs.2;simp only [List.length_append,List.length_cons,List.length_nil];omega⟩) 5 0 _ ⟨h,Nat.zero_le _⟩
theorem wB {c:Cur} (h:CurOk c):CurOk (cX c).2∧(cX c).1.length≤5:=by
 obtain ⟨v,e,h1,h2⟩:=c4f h
 unfold cX
 rw [show ((5:Int)).toNat=5 from rfl,e]
 exact ⟨h1,h2⟩
theorem vY {c:Cur} (h:CurOk c):CurOk (cX c).2:=(wB h).1
theorem a6u {c:Cur} {v:List Attr×Cur} (e:v=cX c) (h:CurOk c):v.1.length≤5:=by rw [e];exact (wB h).2
def cF (p0:Cur):(Span×Cur) :=
 (aZ (aG p0 5) fun (v1:(Int×Cur))=>(aZ (aG v1.2 9) fun (v2:(Int×Cur))=>(aZ (aG v2.2 9) fun (v3:(Int×Cur))=>(aZ (cH v3.2 4) fun (v4:(Bool×Cur))=>(aZ (cX v4.2) fun (v5:((List Attr)×Cur))=>(aZ (bM v5.2 [0,1,5,20]) fun (v6:(Int×Cur))=>((Span.mk (IntKind.i64.wrap (1+v1.1)) (IntKind.i64.wrap (1+v2.1)) v3.1 (IntKind.i64.wrap (v3.1+v6.1)) v4.1 v5.1),v6.2)))))))
theorem a5y (p0:Cur) (hs:CurOk p0):FnOk prog 123 [.tup [.one (.b ((Cur.cells false) p0))]] ⟨.agg ((Span.cells true) (cF p0).1),[.one (.b ((Cur.cells false) (cF p0).2))],[],false⟩:=by
 refine FnOk.introV (E:=env) aK aS func123 rfl (by kernel_rfl) rfl ?_
 have hg:=cF.eq_1 p0
 have hown:(false=false→∀g:(Span×Cur),AV.Own (AV.agg ((Span.cells true) g.1)))∧(fun g:(Span×Cur)=>(Cur.cells false) g.2)=_∧(fun g:(Span×Cur)=>AV.agg ((Span.cells true) g.1))=_:=⟨fun _ g=>xM _,rfl,rfl⟩
 exact aA (aB (m:=2) rfl (aA (.inr ⟨0,[],fun us1 hu1=>⟨_,(.same _),_,_,_,_,_,dB p0 5 (by assumption),(FzAs.same _),(.same _),trivial,(Int×Cur),(aG p0 5),(fun g=>(Cur.cells false) g.2),(fun g=>.one (.v (.int .i64 g.1))),rfl,rfl,fun v1 hvv1=>aB (m:=4) rfl (have hz2:=okE hvv1 (bI (by assumption));have hlB:=fS hvv1;aB (m:=4) rfl (have hg:=bG hvv1 hg;.inr ⟨0,[],fun us3 hu3=>⟨_,(.same _),_,_,_,_,_,dB v1.2 9 (by assumption),(FzAs.same _),(.same _),trivial,(Int×Cur),(aG v1.2 9),(fun g=>(Cur.cells false) g.2),(fun g=>.one (.v (.int .i64 g.1))),rfl,rfl,fun v2 hvv2=>aB (m:=5) rfl (have hz4:=okE hvv2 (bI (by assumption));have hlB:=fS hvv2;aB (m:=5) rfl (have hg:=bG hvv2 hg;.inr ⟨0,[],fun us5 hu5=>⟨_,(.same _),_,_,_,_,_,dB v2.2 9 (by assumption),(FzAs.same _),(.same _),trivial,(Int×Cur),(aG v2.2 9),(fun g=>(Cur.cells false) g.2),(fun g=>.one (.v (.int .i64 g.1))),rfl,rfl,fun v3 hvv3=>aB (m:=6) rfl (have hz6:=okE hvv3 (bI (by assumption));have hlB:=fS hvv3;aB (m:=6) rfl (have hg:=bG hvv3 hg;.inr ⟨0,[],fun us7 hu7=>⟨_,(.same _),_,_,_,_,_,jX v3.2 4 (by assumption),(FzAs.same _),(.same _),trivial,(Bool×Cur),(cH v3.2 4),(fun g=>(Cur.cells false) g.2),(fun g=>.one (.v (.bool g.1))),rfl,rfl,fun v4 hvv4=>aB (m:=7) rfl (have hz8:=okE hvv4 (fD (by assumption));aB (m:=7) rfl (have hg:=bG hvv4 hg;.inr ⟨0,[],fun us9 hu9=>⟨_,(.same _),_,_,_,_,_,zL v4.2 (by assumption),(FzAs.same _),(.same _),trivial,((List Attr)×Cur),(cX v4.2),(fun g=>(Cur.cells false) g.2),(fun g=>.one (.s true 4 (List.map Attr.cells g.1))),rfl,rfl,fun v5 hvv5=>aB (m:=8) rfl (have hz10:=okE hvv5 (vY (by assumption));have hlA:=a6u hvv5 (by assumption);aB (m:=8) rfl (have hg:=bG hvv5 hg;aB (m:=9) rfl (aA (.inr (.inr ⟨(.q 0 (.q 2 (.z 1 (.m 3 [1] (.m 4 [1] (.m 5 [] (.m 6 [] (.m 7 [] .leaf)))))))),by kernel_rfl,.inr (And.intro (And.intro (⟨rfl,rfl⟩) trivial) (.inr ⟨0,[],fun us11 hu11=>⟨_,(.same _),_,_,_,_,_,gN v5.2 [0,1,5,20] (by exact ⟨by assumption,by simp,by simp⟩),(FzAs.same _),(.same _),trivial,(Int×Cur),(bM v5.2 [0,1,5,20]),(fun g=>(Cur.cells false) g.2),(fun g=>.one (.v (.int .i64 g.1))),rfl,rfl,fun v6 hvv6=>aB (m:=11) rfl (have hz12:=okE hvv6 (eG (by assumption));aB (m:=11) rfl (have hg:=bG hvv6 hg;And.intro (And.intro (⟨rfl,rfl⟩) trivial) (And.intro trivial (And.intro trivial (And.intro trivial (aA (bO hown hg)))))))⟩⟩))⟩)))))⟩⟩))⟩⟩))⟩⟩))⟩⟩))⟩⟩)))
theorem qI {c:Cur} (h:CurOk c):CurOk (cF c).2:=by
 show kP (cF c)
 unfold cF
 repeat' (with_reducible (first | assumption | refine lG ?_ (fun v hv=>?_) | refine tR ?_ | refine bI ?_ | refine fD ?_ | refine eG ?_ | refine vY ?_))
def oY (p0:Cur):(Int×Cur) :=
 (aZ (bM p0 [(-1),0,1,2,255,256,65535,2147483647,2147483648,4294967295,4294967296,(-2147483648),9223372036854775807,(-9223372036854775808)]) fun (v1:(Int×Cur))=>(v1.1,v1.2))
theorem c0s (p0:Cur) (hs:CurOk p0):FnOk prog 175 [.tup [.one (.b ((Cur.cells false) p0))]] ⟨.one (.v (.int .i64 (oY p0).1)),[.one (.b ((Cur.cells false) (oY p0).2))],[],false⟩:=by
 refine FnOk.introV (E:=env) aK aS func175 rfl (by kernel_rfl) rfl ?_
 have hg:=oY.eq_1 p0
 have hown:(false=false→∀g:(Int×Cur),AV.Own (AV.one (.v (.int .i64 g.1))))∧(fun g:(Int×Cur)=>(Cur.cells false) g.2)=_∧(fun g:(Int×Cur)=>AV.one (.v (.int .i64 g.1)))=_:=⟨fun _ g=>.v _,rfl,rfl⟩
 exact aA (aA (.inr (.inr ⟨0,[],fun us1 hu1=>⟨_,(.same _),_,_,_,_,_,gN p0 [(-1),0,1,2,255,256,65535,2147483647,2147483648,4294967295,4294967296,(-2147483648),9223372036854775807,(-9223372036854775808)] (by exact ⟨by assumption,by simp,by simp⟩),(FzAs.same _),(.same _),trivial,(Int×Cur),(bM p0 [(-1),0,1,2,255,256,65535,2147483647,2147483648,4294967295,4294967296,(-2147483648),9223372036854775807,(-9223372036854775808)]),(fun g=>(Cur.cells false) g.2),(fun g=>.one (.v (.int .i64 g.1))),rfl,rfl,fun v1 hvv1=>aB (m:=3) rfl (have hz2:=okE hvv1 (eG (by assumption));aB (m:=3) rfl (have hg:=bG hvv1 hg;bO hown hg))⟩⟩)))
theorem b8x {c:Cur} (h:CurOk c):CurOk (oY c).2:=by
 show kP (oY c)
 unfold oY
 repeat' (with_reducible (first | assumption | refine lG ?_ (fun v hv=>?_) | refine tR ?_ | refine eG ?_))
def lX (p0:Cur):(Int×Cur) :=
 (aZ (cH p0 2) fun (v1:(Bool×Cur))=>(bif v1.1 then (aZ (oY v1.2) fun (v2:(Int×Cur))=>(v2.1,v2.2)) else (aZ (bM v1.2 [(-2147483648),(-3),(-1),0,1,3,7,65536,2147483647,2147483648]) fun (v3:(Int×Cur))=>(v3.1,v3.2))))
theorem a7j (p0:Cur) (hs:CurOk p0):FnOk prog 160 [.tup [.one (.b ((Cur.cells false) p0))]] ⟨.one (.v (.int .i64 (lX p0).1)),[.one (.b ((Cur.cells false) (lX p0).2))],[],false⟩:=by
 refine FnOk.introV (E:=env) aK aS func160 rfl (by kernel_rfl) rfl ?_
 have hg:=lX.eq_1 p0
 have hown:(false=false→∀g:(Int×Cur),AV.Own (AV.one (.v (.int .i64 g.1))))∧(fun g:(Int×Cur)=>(Cur.cells false) g.2)=_∧(fun g:(Int×Cur)=>AV.one (.v (.int .i64 g.1)))=_:=⟨fun _ g=>.v _,rfl,rfl⟩
 exact aA (aA (aA (.inr ⟨0,[],fun us1 hu1=>⟨_,(.same _),_,_,_,_,_,jX p0 2 (by assumption),(FzAs.same _),(.same _),trivial,(Bool×Cur),(cH p0 2),(fun g=>(Cur.cells false) g.2),(fun g=>.one (.v (.bool g.1))),rfl,rfl,fun v1 hvv1=>aB (m:=3) rfl (have hz2:=okE hvv1 (fD (by assumption));aB (m:=3) rfl (have hg:=bG hvv1 hg;brE hg (fun hg h3=>aA (.inr ⟨0,[],fun us4 hu4=>⟨_,(.same _),_,_,_,_,_,c0s v1.2 (by assumption),(FzAs.same _),(.same _),trivial,(Int×Cur),(oY v1.2),(fun g=>(Cur.cells false) g.2),(fun g=>.one (.v (.int .i64 g.1))),rfl,rfl,fun v2 hvv2=>aB (m:=4) rfl (have hz5:=okE hvv2 (b8x (by assumption));aB (m:=4) rfl (have hg:=bG hvv2 hg;bO hown hg))⟩⟩)) (fun hg h3=>aA (.inr (.inr ⟨0,[],fun us6 hu6=>⟨_,(.same _),_,_,_,_,_,gN v1.2 [(-2147483648),(-3),(-1),0,1,3,7,65536,2147483647,2147483648] (by exact ⟨by assumption,by simp,by simp⟩),(FzAs.same _),(.same _),trivial,(Int×Cur),(bM v1.2 [(-2147483648),(-3),(-1),0,1,3,7,65536,2147483647,2147483648]),(fun g=>(Cur.cells false) g.2),(fun g=>.one (.v (.int .i64 g.1))),rfl,rfl,fun v3 hvv3=>aB (m:=4) rfl (have hz7:=okE hvv3 (eG (by assumption));aB (m:=4) rfl (have hg:=bG hvv3 hg;bO hown hg))⟩⟩)))))⟩⟩)))
theorem a4v {c:Cur} (h:CurOk c):CurOk (lX c).2:=by
 show kP (lX c)
 unfold lX
 repeat' (with_reducible (first | assumption | refine lG ?_ (fun v hv=>?_) | refine a1k ?_ ?_ | refine tR ?_ | refine fD ?_ | refine eG ?_ | refine b8x ?_))
def kG (p0:Cur):(ByteArray×Cur) :=
 (aZ (cH p0 2) fun (v1:(Bool×Cur))=>(bif v1.1 then (aZ (fL v1.2) fun (v2:(ByteArray×Cur))=>(v2.1,v2.2)) else (aZ (dR v1.2 [(ByteArray.mk #[]),(ByteArray.mk #[75]),(ByteArray.mk #[110,105,110,101,99,104,97,114,115]),(ByteArray.mk #[101,105,103,104,116,97,98,99]),(ByteArray.mk #[97,32,98]),(ByteArray.mk #[97,49]),(ByteArray.mk #[102,97,105,108,101,100]),(ByteArray.mk #[102,97,105,108,101,100,120])]) fun (v3:(ByteArray×Cur))=>(v3.1,v3.2))))
theorem b0b (p0:Cur) (hs:CurOk p0):FnOk prog 176 [.tup [.one (.b ((Cur.cells false) p0))]] ⟨.one (.v (.string (kG p0).1)),[.one (.b ((Cur.cells false) (kG p0).2))],[],false⟩:=by
 refine FnOk.introV (E:=env) aK aS func176 rfl (by kernel_rfl) rfl ?_
 have hg:=kG.eq_1 p0
 have hown:(false=false→∀g:(ByteArray×Cur),AV.Own (AV.one (.v (.string g.1))))∧(fun g:(ByteArray×Cur)=>(Cur.cells false) g.2)=_∧(fun g:(ByteArray×Cur)=>AV.one (.v (.string g.1)))=_:=⟨fun _ g=>.v _,rfl,rfl⟩
 exact aA (aA (aA (.inr ⟨0,[],fun us1 hu1=>⟨_,(.same _),_,_,_,_,_,jX p0 2 (by assumption),(FzAs.same _),(.same _),trivial,(Bool×Cur),(cH p0 2),(fun g=>(Cur.cells false) g.2),(fun g=>.one (.v (.bool g.1))),rfl,rfl,fun v1 hvv1=>aB (m:=3) rfl (have hz2:=okE hvv1 (fD (by assumption));aB (m:=3) rfl (have hg:=bG hvv1 hg;brE hg (fun hg h3=>aA (.inr ⟨0,[],fun us4 hu4=>⟨_,(.same _),_,_,_,_,_,xW v1.2 (by assumption),(FzAs.same _),(.same _),trivial,(ByteArray×Cur),(fL v1.2),(fun g=>(Cur.cells false) g.2),(fun g=>.one (.v (.string g.1))),rfl,rfl,fun v2 hvv2=>aB (m:=4) rfl (have hz5:=okE hvv2 (tS (by assumption));aB (m:=4) rfl (have hg:=bG hvv2 hg;bO hown hg))⟩⟩)) (fun hg h3=>aA (.inr (.inr ⟨0,[],fun us6 hu6=>⟨_,(.same _),_,_,_,_,_,mL v1.2 [(ByteArray.mk #[]),(ByteArray.mk #[75]),(ByteArray.mk #[110,105,110,101,99,104,97,114,115]),(ByteArray.mk #[101,105,103,104,116,97,98,99]),(ByteArray.mk #[97,32,98]),(ByteArray.mk #[97,49]),(ByteArray.mk #[102,97,105,108,101,100]),(ByteArray.mk #[102,97,105,108,101,100,120])] (by exact ⟨by assumption,by simp,by simp⟩),(FzAs.same _),(.same _),trivial,(ByteArray×Cur),(dR v1.2 [(ByteArray.mk #[]),(ByteArray.mk #[75]),(ByteArray.mk #[110,105,110,101,99,104,97,114,115]),(ByteArray.mk #[101,105,103,104,116,97,98,99]),(ByteArray.mk #[97,32,98]),(ByteArray.mk #[97,49]),(ByteArray.mk #[102,97,105,108,101,100]),(ByteArray.mk #[102,97,105,108,101,100,120])]),(fun g=>(Cur.cells false) g.2),(fun g=>.one (.v (.string g.1))),rfl,rfl,fun v3 hvv3=>aB (m:=4) rfl (have hz7:=okE hvv3 (kC (by assumption));aB (m:=4) rfl (have hg:=bG hvv3 hg;bO hown hg))⟩⟩)))))⟩⟩)))
theorem a6p {c:Cur} (h:CurOk c):CurOk (kG c).2:=by
 show kP (kG c)
 unfold kG
 repeat' (with_reducible (first | assumption | refine lG ?_ (fun v hv=>?_) | refine a1k ?_ ?_ | refine tR ?_ | refine fD ?_ | refine kC ?_ | refine tS ?_))
def mG (p0:Cur):(ByteArray×Cur) :=
 (aZ (cH p0 6) fun (v1:(Bool×Cur))=>(bif v1.1 then (aZ (dR v1.2 [(ByteArray.mk #[]),(ByteArray.mk #[34]),(ByteArray.mk #[127]),(ByteArray.mk #[31]),(ByteArray.mk #[116,119,101,110,116,121,32,98,121,116,101,115,32,97,114,101,32,104,101,114,101]),(ByteArray.mk #[116,119,101,110,116,121,98,121,116,101,115,97,114,101,104,101,114,101,50,48]),(ByteArray.mk #[126,32])]) fun (v2:(ByteArray×Cur))=>(v2.1,v2.2)) else (aZ (dR v1.2 [(ByteArray.mk #[97]),(ByteArray.mk #[98]),(ByteArray.mk #[111,107]),(ByteArray.mk #[120,32,121])]) fun (v3:(ByteArray×Cur))=>(v3.1,v3.2))))
theorem b4d (p0:Cur) (hs:CurOk p0):FnOk prog 177 [.tup [.one (.b ((Cur.cells false) p0))]] ⟨.one (.v (.string (mG p0).1)),[.one (.b ((Cur.cells false) (mG p0).2))],[],false⟩:=by
 refine FnOk.introV (E:=env) aK aS func177 rfl (by kernel_rfl) rfl ?_
 have hg:=mG.eq_1 p0
 have hown:(false=false→∀g:(ByteArray×Cur),AV.Own (AV.one (.v (.string g.1))))∧(fun g:(ByteArray×Cur)=>(Cur.cells false) g.2)=_∧(fun g:(ByteArray×Cur)=>AV.one (.v (.string g.1)))=_:=⟨fun _ g=>.v _,rfl,rfl⟩
 exact aA (aA (aA (.inr ⟨0,[],fun us1 hu1=>⟨_,(.same _),_,_,_,_,_,jX p0 6 (by assumption),(FzAs.same _),(.same _),trivial,(Bool×Cur),(cH p0 6),(fun g=>(Cur.cells false) g.2),(fun g=>.one (.v (.bool g.1))),rfl,rfl,fun v1 hvv1=>aB (m:=3) rfl (have hz2:=okE hvv1 (fD (by assumption));aB (m:=3) rfl (have hg:=bG hvv1 hg;brE hg (fun hg h3=>aA (.inr (.inr ⟨0,[],fun us4 hu4=>⟨_,(.same _),_,_,_,_,_,mL v1.2 [(ByteArray.mk #[]),(ByteArray.mk #[34]),(ByteArray.mk #[127]),(ByteArray.mk #[31]),(ByteArray.mk #[116,119,101,110,116,121,32,98,121,116,101,115,32,97,114,101,32,104,101,114,101]),(ByteArray.mk #[116,119,101,110,116,121,98,121,116,101,115,97,114,101,104,101,114,101,50,48]),(ByteArray.mk #[126,32])] (by exact ⟨by assumption,by simp,by simp⟩),(FzAs.same _),(.same _),trivial,(ByteArray×Cur),(dR v1.2 [(ByteArray.mk #[]),(ByteArray.mk #[34]),(ByteArray.mk #[127]),(ByteArray.mk #[31]),(ByteArray.mk #[116,119,101,110,116,121,32,98,121,116,101,115,32,97,114,101,32,104,101,114,101]),(ByteArray.mk #[116,119,101,110,116,121,98,121,116,101,115,97,114,101,104,101,114,101,50,48]),(ByteArray.mk #[126,32])]),(fun g=>(Cur.cells false) g.2),(fun g=>.one (.v (.string g.1))),rfl,rfl,fun v2 hvv2=>aB (m:=4) rfl (have hz5:=okE hvv2 (kC (by assumption));aB (m:=4) rfl (have hg:=bG hvv2 hg;bO hown hg))⟩⟩))) (fun hg h3=>aA (.inr (.inr ⟨0,[],fun us6 hu6=>⟨_,(.same _),_,_,_,_,_,mL v1.2 [(ByteArray.mk #[97]),(ByteArray.mk #[98]),(ByteArray.mk #[111,107]),(ByteArray.mk #[120,32,121])] (by exact ⟨by assumption,by simp,by simp⟩),(FzAs.same _),(.same _),trivial,(ByteArray×Cur),(dR v1.2 [(ByteArray.mk #[97]),(ByteArray.mk #[98]),(ByteArray.mk #[111,107]),(ByteArray.mk #[120,32,121])]),(fun g=>(Cur.cells false) g.2),(fun g=>.one (.v (.string g.1))),rfl,rfl,fun v3 hvv3=>aB (m:=4) rfl (have hz7:=okE hvv3 (kC (by assumption));aB (m:=4) rfl (have hg:=bG hvv3 hg;bO hown hg))⟩⟩)))))⟩⟩)))
theorem b1m {c:Cur} (h:CurOk c):CurOk (mG c).2:=by
 show kP (mG c)
 unfold mG
 repeat' (with_reducible (first | assumption | refine lG ?_ (fun v hv=>?_) | refine a1k ?_ ?_ | refine tR ?_ | refine fD ?_ | refine kC ?_))
def lV (p0:Cur):((List Attr)×Cur) :=
 (aZ (cX p0) fun (v1:((List Attr)×Cur))=>(aZ (aG v1.2 8) fun (v2:(Int×Cur))=>(bif (v2.1==0) then (aZ (kG v2.2) fun (v3:(ByteArray×Cur))=>(aZ (cH v3.2 2) fun (v4:(Bool×Cur))=>(aZ (lX v4.2) fun (v5:(Int×Cur))=>(aZ (mG v5.2) fun (v6:(ByteArray×Cur))=>((v1.1++[(Attr.mk v3.1 v4.1 v5.1 v6.1)]),v6.2))))) else (bif (v2.1==1) then (aZ (dR v2.2 [(ByteArray.mk #[97]),(ByteArray.mk #[122,111,111])]) fun (v7:(ByteArray×Cur))=>(aZ (gB v7.2 v7.1) fun (v8:(Attr×Cur))=>((v1.1++[v8.1]),v8.2))) else (bif (v2.1==2) then (aZ (gB v2.2 (ByteArray.mk #[118])) fun (v9:(Attr×Cur))=>(aZ (gB v9.2 (ByteArray.mk #[119])) fun (v10:(Attr×Cur))=>(aZ (gB v10.2 (ByteArray.mk #[120])) fun (v11:(Attr×Cur))=>(aZ (gB v11.2 (ByteArray.mk #[121])) fun (v12:(Attr×Cur))=>((v1.1++[v9.1,v10.1,v11.1,v12.1]),v12.2))))) else (v1.1,v2.2))))))
theorem c0q (p0:Cur) (hs:CurOk p0):FnOk prog 161 [.tup [.one (.b ((Cur.cells false) p0))]] ⟨.one (.s true 4 (List.map Attr.cells (lV p0).1)),[.one (.b ((Cur.cells false) (lV p0).2))],[],false⟩:=by
 refine FnOk.introV (E:=env) aK aS func161 rfl (by kernel_rfl) rfl ?_
 have hg:=lV.eq_1 p0
 have hown:(false=false→∀g:((List Attr)×Cur),AV.Own (AV.one (.s true 4 (List.map Attr.cells g.1))))∧(fun g:((List Attr)×Cur)=>(Cur.cells false) g.2)=_∧(fun g:((List Attr)×Cur)=>AV.one (.s true 4 (List.map Attr.cells g.1)))=_:=⟨fun _ g=>fF sQ _,rfl,rfl⟩
 refine aA (aA (.inr ⟨0,[],fun us1 hu1=>⟨_,(.same _),_,_,_,_,_,zL p0 (by assumption),(FzAs.same _),(.same _),trivial,((List Attr)×Cur),(cX p0),(fun g=>(Cur.cells false) g.2),(fun g=>.one (.s true 4 (List.map Attr.cells g.1))),rfl,rfl,fun v1 hvv1=>aB (m:=3) rfl (have hz2:=okE hvv1 (vY (by assumption));have hlA:=a6u hvv1 (by assumption);aB (m:=3) rfl (have hg:=bG hvv1 hg;aA (aA (.inr ⟨0,[],fun us3 hu3=>⟨_,(.same _),_,_,_,_,_,dB v1.2 8 (by assumption),(FzAs.same _),(.same _),trivial,(Int×Cur),(aG v1.2 8),(fun g=>(Cur.cells false) g.2),(fun g=>.one (.v (.int .i64 g.1))),rfl,rfl,fun v2 hvv2=>aB (m:=5) rfl (have hz4:=okE hvv2 (bI (by assumption));have hlB:=fS hvv2;aB (m:=5) rfl (have hg:=bG hvv2 hg;aA (brQ hg (fun hg h5=>?_) (fun hg h5=>?_))))⟩⟩))))⟩⟩))
 · refine .inr ⟨0,[],fun us6 hu6=>⟨_,(.same _),_,_,_,_,_,b0b v2.2 (by assumption),(FzAs.same _),(.same _),trivial,(ByteArray×Cur),(kG v2.2),(fun g=>(Cur.cells false) g.2),(fun g=>.one (.v (.string g.1))),rfl,rfl,fun v3 hvv3=>aB (m:=6) rfl (have hz7:=okE hvv3 (a6p (by assumption));aB (m:=6) rfl (have hg:=bG hvv3 hg;.inr ⟨0,[],fun us8 hu8=>⟨_,(.same _),_,_,_,_,_,jX v3.2 2 (by assumption),(FzAs.same _),(.same _),trivial,(Bool×Cur),(cH v3.2 2),(fun g=>(Cur.cells false) g.2),(fun g=>.one (.v (.bool g.1))),rfl,rfl,fun v4 hvv4=>aB (m:=7) rfl (have hz9:=okE hvv4 (fD (by assumption));aB (m:=7) rfl (have hg:=bG hvv4 hg;.inr ⟨0,[],fun us10 hu10=>⟨_,(.same _),_,_,_,_,_,a7j v4.2 (by assumption),(FzAs.same _),(.same _),trivial,(Int×Cur),(lX v4.2),(fun g=>(Cur.cells false) g.2),(fun g=>.one (.v (.int .i64 g.1))),rfl,rfl,fun v5 hvv5=>aB (m:=8) rfl (have hz11:=okE hvv5 (a4v (by assumption));aB (m:=8) rfl (have hg:=bG hvv5 hg;.inr ⟨0,[],fun us12 hu12=>⟨_,(.same _),_,_,_,_,_,b4d v5.2 (by assumption),(FzAs.same _),(.same _),trivial,(ByteArray×Cur),(mG v5.2),(fun g=>(Cur.cells false) g.2),(fun g=>.one (.v (.string g.1))),rfl,rfl,fun v6 hvv6=>aB (m:=9) rfl (have hz13:=okE hvv6 (b1m (by assumption));aB (m:=9) rfl (have hg:=bG hvv6 hg;.inr (.inl (aV (Y:=List.map Attr.cells (v1.1++[(Attr.mk v3.1 v4.1 v5.1 v6.1)])) (by simp [bX,bP,-List.map_take,-List.map_drop,-List.drop_one,aQ,aR,oR,oT,bY oR,fH oT];rfl) (cS (b:=48) (hs:=by have q1:=hlA;refine ⟨?_,?_⟩;(show List.length _*48≤_);(try simp only [LN]);omega;(try simp only [LN]);omega) ?_)))))⟩⟩))⟩⟩))⟩⟩))⟩⟩
   exact aB (m:=9) rfl (aA (bO hown hg))
 · refine aA (brQ hg (fun hg h14=>?_) (fun hg h14=>?_))
   · refine .inr (.inr ⟨0,[],fun us15 hu15=>⟨_,(.same _),_,_,_,_,_,mL v2.2 [(ByteArray.mk #[97]),(ByteArray.mk #[122,111,111])] (by exact ⟨by assumption,by simp,by simp⟩),(FzAs.same _),(.same _),trivial,(ByteArray×Cur),(dR v2.2 [(ByteArray.mk #[97]),(ByteArray.mk #[122,111,111])]),(fun g=>(Cur.cells false) g.2),(fun g=>.one (.v (.string g.1))),rfl,rfl,fun v7 hvv7=>aB (m:=6) rfl (have hz16:=okE hvv7 (kC (by assumption));aB (m:=6) rfl (have hg:=bG hvv7 hg;.inr ⟨0,[],fun us17 hu17=>⟨_,(.same _),_,_,_,_,_,qH v7.2 v7.1 (by assumption),(FzAs.same _),(.same _),trivial,(Attr×Cur),(gB v7.2 v7.1),(fun g=>(Cur.cells false) g.2),(fun g=>.agg (Attr.cells g.1)),rfl,rfl,fun v8 hvv8=>aB (m:=7) rfl (have hz18:=okE hvv8 (sR (by assumption));aB (m:=7) rfl (have hg:=bG hvv8 hg;.inr (.inl (aV (Y:=List.map Attr.cells (v1.1++[v8.1])) (by simp [bX,bP,-List.map_take,-List.map_drop,-List.drop_one,aQ,aR,oR,oT,bY oR,fH oT];rfl) (cS (b:=48) (hs:=by have q1:=hlA;refine ⟨?_,?_⟩;(show List.length _*48≤_);(try simp only [LN]);omega;(try simp only [LN]);omega) ?_)))))⟩⟩))⟩⟩)
     exact aB (m:=7) rfl (aA (bO hown hg))
   · refine aA (brQ hg (fun hg h19=>.inr ⟨0,[],fun us20 hu20=>⟨_,(.same _),_,_,_,_,_,qH v2.2 (ByteArray.mk #[118]) (by assumption),(FzAs.same _),(.same _),trivial,(Attr×Cur),(gB v2.2 (ByteArray.mk #[118])),(fun g=>(Cur.cells false) g.2),(fun g=>.agg (Attr.cells g.1)),rfl,rfl,fun v9 hvv9=>aB (m:=6) rfl (have hz21:=okE hvv9 (sR (by assumption));aB (m:=6) rfl (have hg:=bG hvv9 hg;.inr ⟨0,[],fun us22 hu22=>⟨_,(.same _),_,_,_,_,_,qH v9.2 (ByteArray.mk #[119]) (by assumption),(FzAs.same _),(.same _),trivial,(Attr×Cur),(gB v9.2 (ByteArray.mk #[119])),(fun g=>(Cur.cells false) g.2),(fun g=>.agg (Attr.cells g.1)),rfl,rfl,fun v10 hvv10=>aB (m:=7) rfl (have hz23:=okE hvv10 (sR (by assumption));aB (m:=7) rfl (have hg:=bG hvv10 hg;.inr ⟨0,[],fun us24 hu24=>⟨_,(.same _),_,_,_,_,_,qH v10.2 (ByteArray.mk #[120]) (by assumption),(FzAs.same _),(.same _),trivial,(Attr×Cur),(gB v10.2 (ByteArray.mk #[120])),(fun g=>(Cur.cells false) g.2),(fun g=>.agg (Attr.cells g.1)),rfl,rfl,fun v11 hvv11=>aB (m:=8) rfl (have hz25:=okE hvv11 (sR (by assumption));aB (m:=8) rfl (have hg:=bG hvv11 hg;.inr ⟨0,[],fun us26 hu26=>⟨_,(.same _),_,_,_,_,_,qH v11.2 (ByteArray.mk #[121]) (by assumption),(FzAs.same _),(.same _),trivial,(Attr×Cur),(gB v11.2 (ByteArray.mk #[121])),(fun g=>(Cur.cells false) g.2),(fun g=>.agg (Attr.cells g.1)),rfl,rfl,fun v12 hvv12=>aB (m:=9) rfl (have hz27:=okE hvv12 (sR (by assumption));aB (m:=9) rfl (have hg:=bG hvv12 hg;.inr (.inl (aV (Y:=List.map Attr.cells (v1.1++[v9.1,v10.1,v11.1,v12.1])) (by simp [bX,bP,-List.map_take,-List.map_drop,-List.drop_one,aQ,aR,oR,oT,bY oR,fH oT];rfl) (cS (b:=48) (hs:=by have q1:=hlA;refine ⟨?_,?_⟩;(show List.length _*48≤_);(try simp only [LN]);omega;(try simp only [LN]);omega) ?_)))))⟩⟩))⟩⟩))⟩⟩))⟩⟩) (fun hg h19=>aA (bO hown hg)))
     exact aB (m:=9) rfl (aA (bO hown hg))
theorem b8w {c:Cur} (h:CurOk c):CurOk (lV c).2:=by
 show kP (lV c)
 unfold lV
 repeat' (with_reducible (first | assumption | refine lG ?_ (fun v hv=>?_) | refine a1k ?_ ?_ | refine tR ?_ | refine bI ?_ | refine fD ?_ | refine kC ?_ | refine a4v ?_ | refine a6p ?_ | refine b1m ?_ | refine sR ?_ | refine vY ?_))
def jB (p0:Cur):(Span×Cur) :=
 (aZ (cF p0) fun (v1:(Span×Cur))=>(aZ (aG v1.2 12) fun (v2:(Int×Cur))=>(bif (v2.1==0) then (aZ (bM v2.2 [0,999,1000]) fun (v3:(Int×Cur))=>({ v1.1 with Trace:=v3.1 },v3.2)) else (bif (v2.1==1) then (aZ (bM v2.2 [0,999,1000]) fun (v4:(Int×Cur))=>({ v1.1 with Id:=v4.1 },v4.2)) else (bif (v2.1==2) then (aZ (bM v2.2 [(-1),99999,100000]) fun (v5:(Int×Cur))=>({ v1.1 with Start:=v5.1 },v5.2)) else (bif (v2.1==3) then (aZ (lX v2.2) fun (v6:(Int×Cur))=>({ v1.1 with End:=v6.1 },v6.2)) else (bif (v2.1==4) then (aZ (lV v2.2) fun (v7:((List Attr)×Cur))=>({ v1.1 with Attrs:=v7.1 },v7.2)) else (bif (v2.1==5) then (aZ (dR v2.2 [(ByteArray.mk #[116,119,101,110,116,121,98,121,116,101,115,97,114,101,104,101,114,101,50,48]),(ByteArray.mk #[116,119,101,110,116,121,98,121,116,101,115,97,114,101,104,101,114,101,50]),(ByteArray.mk #[])]) fun (v8:(ByteArray×Cur))=>({ v1.1 with Attrs:=[(Attr.mk (ByteArray.mk #[97,97,97,97,97,97,97,97]) false 0 (ByteArray.mk #[116,119,101,110,116,121,98,121,116,101,115,97,114,101,104,101,114,101,50,48])),(Attr.mk (ByteArray.mk #[98,98,98,98,98,98,98,98]) false 0 (ByteArray.mk #[116,119,101,110,116,121,98,121,116,101,115,97,114,101,104,101,114,101,50,48])),(Attr.mk (ByteArray.mk #[99,99,99,99,99,99,99,99]) false 0 v8.1)] },v8.2)) else (v1.1,v2.2)))))))))
theorem c0o (p0:Cur) (hs:CurOk p0):FnOk prog 126 [.tup [.one (.b ((Cur.cells false) p0))]] ⟨.agg ((Span.cells false) (jB p0).1),[.one (.b ((Cur.cells false) (jB p0).2))],[],true⟩:=by
 refine FnOk.introV (E:=env) aK aS func126 rfl (by kernel_rfl) rfl ?_
 have hg:=jB.eq_1 p0
 have hown:(true=false→∀g:(Span×Cur),AV.Own (AV.agg ((Span.cells false) g.1)))∧(fun g:(Span×Cur)=>(Cur.cells false) g.2)=_∧(fun g:(Span×Cur)=>AV.agg ((Span.cells false) g.1))=_:=⟨(fun h=>by cases h),rfl,rfl⟩
 exact aA (aB (m:=2) rfl (aA (.inr ⟨0,[],fun us1 hu1=>⟨_,(.same _),_,_,_,_,_,a5y p0 (by assumption),(FzAs.same _),(.same _),trivial,(Span×Cur),(cF p0),(fun g=>(Cur.cells false) g.2),(fun g=>.agg ((Span.cells true) g.1)),rfl,rfl,fun v1 hvv1=>aB (m:=4) rfl (have hz2:=okE hvv1 (qI (by assumption));aB (m:=4) rfl (have hg:=bG hvv1 hg;aB (m:=5) rfl (aA (aA (.inr ⟨0,[],fun us3 hu3=>⟨_,(.same _),_,_,_,_,_,dB v1.2 12 (by assumption),(FzAs.same _),(.same _),trivial,(Int×Cur),(aG v1.2 12),(fun g=>(Cur.cells false) g.2),(fun g=>.one (.v (.int .i64 g.1))),rfl,rfl,fun v2 hvv2=>aB (m:=7) rfl (have hz4:=okE hvv2 (bI (by assumption));have hlB:=fS hvv2;aB (m:=7) rfl (have hg:=bG hvv2 hg;aA (brQ hg (fun hg h5=>.inr (.inr ⟨0,[],fun us6 hu6=>⟨_,(.same _),_,_,_,_,_,gN v2.2 [0,999,1000] (by exact ⟨by assumption,by simp,by simp⟩),(FzAs.same _),(.same _),trivial,(Int×Cur),(bM v2.2 [0,999,1000]),(fun g=>(Cur.cells false) g.2),(fun g=>.one (.v (.int .i64 g.1))),rfl,rfl,fun v3 hvv3=>aB (m:=8) rfl (have hz7:=okE hvv3 (eG (by assumption));aB (m:=8) rfl (have hg:=bG hvv3 hg;aA (nG hown hg (by rfl) (FzQ.ag (.cons (.same _) (.cons (.same _) (.cons (.same _) (.cons (.same _) (.cons (.same _) (.cons (.sl _ _ _ _ (bE gG _)) (.same _)))))))))))⟩⟩)) (fun hg h5=>aA (brQ hg (fun hg h8=>.inr (.inr ⟨0,[],fun us9 hu9=>⟨_,(.same _),_,_,_,_,_,gN v2.2 [0,999,1000] (by exact ⟨by assumption,by simp,by simp⟩),(FzAs.same _),(.same _),trivial,(Int×Cur),(bM v2.2 [0,999,1000]),(fun g=>(Cur.cells false) g.2),(fun g=>.one (.v (.int .i64 g.1))),rfl,rfl,fun v4 hvv4=>aB (m:=8) rfl (have hz10:=okE hvv4 (eG (by assumption));aB (m:=8) rfl (have hg:=bG hvv4 hg;aA (nG hown hg (by rfl) (FzQ.ag (.cons (.same _) (.cons (.same _) (.cons (.same _) (.cons (.same _) (.cons (.same _) (.cons (.sl _ _ _ _ (bE gG _)) (.same _)))))))))))⟩⟩)) (fun hg h8=>aA (brQ hg (fun hg h11=>.inr (.inr ⟨0,[],fun us12 hu12=>⟨_,(.same _),_,_,_,_,_,gN v2.2 [(-1),99999,100000] (by exact ⟨by assumption,by simp,by simp⟩),(FzAs.same _),(.same _),trivial,(Int×Cur),(bM v2.2 [(-1),99999,100000]),(fun g=>(Cur.cells false) g.2),(fun g=>.one (.v (.int .i64 g.1))),rfl,rfl,fun v5 hvv5=>aB (m:=8) rfl (have hz13:=okE hvv5 (eG (by assumption));aB (m:=8) rfl (have hg:=bG hvv5 hg;aA (nG hown hg (by rfl) (FzQ.ag (.cons (.same _) (.cons (.same _) (.cons (.same _) (.cons (.same _) (.cons (.same _) (.cons (.sl _ _ _ _ (bE gG _)) (.same _)))))))))))⟩⟩)) (fun hg h11=>aA (brQ hg (fun hg h14=>.inr ⟨0,[],fun us15 hu15=>⟨_,(.same _),_,_,_,_,_,a7j v2.2 (by assumption),(FzAs.same _),(.same _),trivial,(Int×Cur),(lX v2.2),(fun g=>(Cur.cells false) g.2),(fun g=>.one (.v (.int .i64 g.1))),rfl,rfl,fun v6 hvv6=>aB (m:=8) rfl (have hz16:=okE hvv6 (a4v (by assumption));aB (m:=8) rfl (have hg:=bG hvv6 hg;aA (nG hown hg (by rfl) (FzQ.ag (.cons (.same _) (.cons (.same _) (.cons (.same _) (.cons (.same _) (.cons (.same _) (.cons (.sl _ _ _ _ (bE gG _)) (.same _)))))))))))⟩⟩) (fun hg h14=>aA (brQ hg (fun hg h17=>.inr ⟨0,[],fun us18 hu18=>⟨_,(.same _),_,_,_,_,_,c0q v2.2 (by assumption),(FzAs.same _),(.same _),trivial,((List Attr)×Cur),(lV v2.2),(fun g=>(Cur.cells false) g.2),(fun g=>.one (.s true 4 (List.map Attr.cells g.1))),rfl,rfl,fun v7 hvv7=>aB (m:=8) rfl (have hz19:=okE hvv7 (b8w (by assumption));aB (m:=8) rfl (have hg:=bG hvv7 hg;aA (nG hown hg (by rfl) (FzQ.ag (.cons (.same _) (.cons (.same _) (.cons (.same _) (.cons (.same _) (.cons (.same _) (.cons (.sl _ _ _ _ (bE gG _)) (.same _)))))))))))⟩⟩) (fun hg h17=>aA (brQ hg (fun hg h20=>.inr (.inr ⟨0,[],fun us21 hu21=>⟨_,(.same _),_,_,_,_,_,mL v2.2 [(ByteArray.mk #[116,119,101,110,116,121,98,121,116,101,115,97,114,101,104,101,114,101,50,48]),(ByteArray.mk #[116,119,101,110,116,121,98,121,116,101,115,97,114,101,104,101,114,101,50]),(ByteArray.mk #[])] (by exact ⟨by assumption,by simp,by simp⟩),(FzAs.same _),(.same _),trivial,(ByteArray×Cur),(dR v2.2 [(ByteArray.mk #[116,119,101,110,116,121,98,121,116,101,115,97,114,101,104,101,114,101,50,48]),(ByteArray.mk #[116,119,101,110,116,121,98,121,116,101,115,97,114,101,104,101,114,101,50]),(ByteArray.mk #[])]),(fun g=>(Cur.cells false) g.2),(fun g=>.one (.v (.string g.1))),rfl,rfl,fun v8 hvv8=>aB (m:=8) rfl (have hz22:=okE hvv8 (kC (by assumption));aB (m:=8) rfl (have hg:=bG hvv8 hg;.inr (aA (nG hown hg (by rfl) (.one (.same _) (fun _ h=>by cases h) (fun _ h=>by cases h))))))⟩⟩)) (fun hg h20=>aA (nG hown hg (by rfl) (FzQ.ag (.cons (.same _) (.cons (.same _) (.cons (.same _) (.cons (.same _) (.cons (.same _) (.cons (.sl _ _ _ _ (bE gG _)) (.same _)))))))))))))))))))))))⟩⟩)))))⟩⟩)))
theorem b8v {c:Cur} (h:CurOk c):CurOk (jB c).2:=by
 show kP (jB c)
 unfold jB
 repeat' (with_reducible (first | assumption | refine lG ?_ (fun v hv=>?_) | refine a1k ?_ ?_ | refine tR ?_ | refine bI ?_ | refine eG ?_ | refine kC ?_ | refine a4v ?_ | refine b8w ?_ | refine qI ?_))
def tK (r0:(Pol→Pol)) (i1:Nat) (s1:(List Pol)) (a1:Pol):Step ((List Pol)) Pol :=
 (.next (s1++[(r0 a1)]))
def iV:Nat→Pol→Pol
 | 0,_=>default
 | n+1,p0=>(Fin.get (fun s1=>{ p0 with L:=s1 }) (aJ (tK (iV n)) 0 ([]:List Pol) p0.L))
theorem b5d:∀(n:Nat) (p0:Pol),Pol.dep p0 < n→Pol.bd 16777216 p0→FnOk prog 152 [.agg (Pol.opn false p0)] ⟨.agg (Pol.opn true (iV n p0)),[],[],false⟩:=by
 intro n
 induction n with
 | zero=>intro p0 hd0;omega
 | succ n ih =>
   intro p0 hd0 hs
   refine FnOk.intro (E:=env) aK aS func152 rfl (by kernel_rfl) rfl rfl ?_
   have hg:iV (n+1) p0=_:=iV.eq_2 ..
   have hown:∀g:Pol,AV.Own (AV.agg (Pol.opn true g)):=fun g=>b8m _
   refine aA ?_
   refine aB (m:=0) rfl ?_
   refine aB (m:=1) rfl ?_
   refine aA ?_
   refine aB (m:=2) rfl ?_
   refine aA ?_
   refine .inl (aB (m:=3) rfl ?_)
   refine aA ?_
   refine aA ?_
   refine gM (fun (i:Nat) s=>s.length≤i) hg (Nat.le_refl _) [1,2,3] (fun x1=>[(4,.one (.v (.int .i64 ((x1.i:Nat):Int))))]) (fun x1=>[.keep 0,.keep 1,.new ⟨5,true,[[.v (.int .i64 p0.Kind),.v (.int .i64 p0.N),.v (.string p0.Key),.v (.string p0.Text),.n 3 [] 1 0 (x1.s).length]],0⟩,.new ⟨5,false,List.map (Pol.cells true) x1.s,0⟩]) [some 0,some 1,some 2,some 3] ?_ (fun x1=>?_)
   · exact ⟨rfl,(by repeat' constructor),⟨(by repeat' constructor),(by repeat' constructor),⟨rfl,rfl,⟨rfl,rfl,rfl,rfl,⟨rfl,rfl,rfl,rfl,by (rfl)⟩,trivial⟩⟩,⟨rfl,rfl,rfl⟩,trivial⟩,trivial⟩
   have hI1:=x1.hI
   try dsimp only at hI1
   refine aA ?_
   refine aA ?_
   refine bJ fun hN1=>?_
   refine cT (fun hi1=>?_) (fun hi1=>?_)
   · have hb1:=(x1.bdy hi1).trans (tK.eq_1 ..)
     have hw1:=aT hi1 (by assumption)
     refine aA ?_
     refine aA ?_
     refine a0y (Pol.cells_eq false) hi1 ?_
     refine .inl (⟨_,_,ih (p0.L[x1.i]'hi1) (by exact Nat.lt_of_lt_of_le (Pol.dep_lt (List.getElem_mem _)) (Nat.le_of_lt_succ hd0)) (by exact (Pol.bd_eq.1 hs).2.2.get hi1),(FzAs.same _),?_⟩)
     refine aB (m:=5) rfl ?_
     refine aB (m:=6) rfl ?_
     refine .inl (aB (m:=7) rfl ?_)
     refine .inl ?_
     refine aV (Y:=List.map (Pol.cells true) (x1.s++[((iV n) (p0.L[x1.i]'hi1))])) (by simp [bX,bP,-List.map_take,-List.map_drop,-List.drop_one,aQ,aR,a3t,bY a3t,iC b8d,Pol.cells_eq];rfl) ?_
     refine cS (b:=72) (hs:=by have q0:p0.L.length≤16777216:=(Pol.bd_eq.1 hs).2.2.1;have q1:=hI1;have q2:=hi1;refine ⟨?_,?_⟩;(show List.length _*72≤_);(try simp only [LN]);omega;(try simp only [LN]);omega) ?_
     refine aB (m:=8) rfl ?_
     exact x1.goE hi1 hb1 (by have q1:=hI1;(try simp only [LN]);omega) [some 0,some 1,some 2,some 8] ⟨rfl,⟨(bA hw1),⟨rfl,rfl,rfl,rfl⟩,⟨rfl,rfl,rfl,rfl⟩,⟨rfl,rfl,rfl,rfl⟩,trivial⟩,⟨(by repeat' constructor),(by repeat' constructor),⟨rfl,rfl,⟨rfl,rfl,rfl,rfl,⟨rfl,rfl,rfl,rfl,by ((simp [LstSt.init,LstSt.step,LstInv.init,CntSt.init,CntSt.step,CntInv.init,WhlSt.init,WhlSt.step];done))⟩,trivial⟩⟩,⟨rfl,rfl,rfl⟩,trivial⟩,trivial⟩
   have hg:=bZ hg (x1.fin hi1)
   refine aA ?_
   exact aE hown hg
def a2s (p0:Pol):Pol:=iV (Pol.dep p0+1) p0
theorem b6y (p0:Pol) (hs:Pol.bd 16777216 p0):FnOk prog 152 [.agg (Pol.opn false p0)] ⟨.agg (Pol.opn true (a2s p0)),[],[],false⟩:=b5d _ p0 (Nat.lt_succ_self _) hs
theorem b1u:∀(n:Nat) (p:Pol),Pol.dep p < n→iV n p=p
 | 0,p,h=>absurd h (Nat.not_lt_zero _)
 | n+1,p,h=>by
   rw [iV.eq_2]
   have key:∀(l:List Pol) (i:Nat) (s:List Pol),(∀q∈l,q∈p.L)→aJ (tK (iV n)) i s l=.fin (s++l):=by
    intro l
    induction l with
    | nil=>intro i s _;rw [List.append_nil];rfl
    | cons a l ih =>
      intro i s hm
      have ha:=b1u n a (by have:=Pol.dep_lt (hm a (List.mem_cons_self ..));omega)
      show aJ (tK (iV n)) (i+1) (s++[iV n a]) l=_
      rw [ha,ih (i+1) (s++[a]) (fun q hq=>hm q (List.mem_cons_of_mem _ hq)),List.append_assoc]
      rfl
   rw [key p.L 0 [] (fun _ h=>h)]
   cases p
   rfl
theorem b3k (p:Pol):a2s p=p:=b1u _ p (Nat.lt_succ_self _)
def aU (p0:Conf):Conf :=
 { p0 with Rule:=(a2s p0.Rule) }
theorem a4a (p0:Conf) (hs:Conf.bd 16777216 p0):FnOk prog 112 [.agg ((Conf.cells false) p0)] ⟨.agg ((Conf.cells true) (aU p0)),[],[],false⟩:=by
 refine FnOk.intro (E:=env) aK aS func112 rfl (by kernel_rfl) rfl rfl ?_
 have hg:=aU.eq_1 p0
 have hown:∀g:Conf,AV.Own (AV.agg ((Conf.cells true) g)):=fun g=>b8l _
 exact aA (aB (m:=0) rfl (aB (m:=1) rfl (aA (aB (m:=2) rfl (aA (.inl (⟨_,_,b6y p0.Rule (by exact hs),(FzAs.same _),aB (m:=4) rfl (aB (m:=5) rfl (aA (aA (aE hown hg))))⟩)))))))
theorem wM (x:Conf):aU x=x:=by cases x;simp [aU,b3k]
def aX (p0:Span):Span :=
 p0
theorem gV (p0:Span) (hs:p0.Attrs.length≤16777216):FnOk prog 157 [.agg ((Span.cells false) p0)] ⟨.agg ((Span.cells true) (aX p0)),[],[],false⟩:=by
 refine FnOk.intro (E:=env) aK aS func157 rfl (by kernel_rfl) rfl rfl ?_
 have hg:=aX.eq_1 p0
 have hown:∀g:Span,AV.Own (AV.agg ((Span.cells true) g)):=fun g=>xM _
 refine aA (aB (m:=0) rfl (aB (m:=1) rfl (aA (.inl (aB (m:=2) rfl (.inl (aV (Y:=List.map Attr.cells p0.Attrs) (by simp [bX,bP,-List.map_take,-List.map_drop,-List.drop_one,aQ,aR,oR,oT,bY oR,fH oT];done) (cS (b:=48) (hs:=by have hl:=hs;refine ⟨?_,?_⟩;(show List.length _*48≤_);(try simp only [LN]);omega;(try simp only [LN]);omega) ?_))))))))
 exact aB (m:=3) rfl (aA (aE hown hg))
theorem pV (x:Span):aX x=x:=by cases x;simp [aX]
def uV (i1:Nat) (s1:(List Span)) (a1:Span):Step ((List Span)) (List Span) :=
 (.next (s1++[(aX a1)]))
def wK (p0:(List Span)):(List Span) :=
 (Fin.get (fun s1=>s1) (aJ uV 0 ([]:List Span) p0))
theorem c0p (p0:(List Span)) (hs:bdS Span.bd 16777216 p0):FnOk prog 190 [.one (.s false 6 (List.map (Span.cells false) p0))] ⟨.one (.s true 6 (List.map (Span.cells true) (wK p0))),[],[],false⟩:=by
 refine FnOk.intro (E:=env) aK aS func190 rfl (by kernel_rfl) rfl rfl ?_
 have hg:=wK.eq_1 p0
 have hown:∀g:(List Span),AV.Own (AV.one (.s true 6 (List.map (Span.cells true) g))):=fun g=>fF xM _
 refine aA (aA (.inl (aB (m:=0) rfl (aA (aA (gM (fun (i:Nat) s=>s.length≤i) hg (Nat.le_refl _) [0] (fun x1=>[(3,.one (.n 0 [] 1 0 (x1.s).length)),(4,.one (.v (.int .i64 ((x1.i:Nat):Int))))]) (fun x1=>[.new ⟨6,false,List.map (Span.cells true) x1.s,0⟩]) [some 0] ((by repeat' constructor)) (fun x1=>?_)))))))
 have hI1:=x1.hI
 try dsimp only at hI1
 refine aA (aA (bJ fun hN1=>cT (fun hi1=>have hb1:=(x1.bdy hi1).trans (uV.eq_1 ..);have hw1:=aT hi1 (by assumption);aA (aA (cC hi1 (.inl (⟨_,_,gV (p0[x1.i]'hi1) (by exact (hs.get hi1).1),(FzAs.same _),aB (m:=2) rfl (aB (m:=3) rfl (.inl (aB (m:=4) rfl (.inl (aV (Y:=List.map (Span.cells true) (x1.s++[(aX (p0[x1.i]'hi1))])) (by simp [bX,bP,-List.map_take,-List.map_drop,-List.drop_one,aQ,aR,a0h,bY a0h,iC b3o];rfl) (cS (b:=64) (hs:=by have q0:=hs.1;have q1:=hI1;have q2:=hi1;refine ⟨?_,?_⟩;(show List.length _*64≤_);(try simp only [LN]);omega;(try simp only [LN]);omega) ?_))))))⟩))))) (fun hi1=>have hg:=bZ hg (x1.fin hi1);aA (aE hown hg))))
 exact aB (m:=5) rfl (x1.goE hi1 hb1 (by have q1:=hI1;simp only [List.length_append,List.length_cons,List.length_nil];omega) [some 5] ⟨rfl,⟨⟨rfl,rfl,rfl,rfl,by ((simp [LstSt.init,LstSt.step,LstInv.init,CntSt.init,CntSt.step,CntInv.init,WhlSt.init,WhlSt.step];done))⟩,(bA hw1),rfl,trivial⟩,⟨⟨rfl,rfl,rfl⟩,trivial⟩,trivial⟩)
theorem b6p (l:List Span):wK l=l:=by
 unfold wK
 rw [nD (b:=uV) (fun a=>[a]) (fun i s a=>by unfold uV;rw [pV]),List.nil_append]
 show l.flatMap (fun a=>[a])=l
 induction l with
 | nil=>rfl
 | cons a l ih=>rw [List.flatMap_cons,ih];rfl
def mH (p0:Trail):Trail :=
 { p0 with Spans:=(wK p0.Spans) }
theorem xX (p0:Trail) (hs:Trail.bd 16777216 p0):FnOk prog 174 [.agg ((Trail.cells false) p0)] ⟨.agg ((Trail.cells true) (mH p0)),[],[],false⟩:=by
 refine FnOk.intro (E:=env) aK aS func174 rfl (by kernel_rfl) rfl rfl ?_
 have hg:=mH.eq_1 p0
 have hown:∀g:Trail,AV.Own (AV.agg ((Trail.cells true) g)):=fun g=>pC _
 exact aA (aB (m:=0) rfl (aB (m:=1) rfl (aA (.inl (⟨_,_,c0p p0.Spans (by exact hs),(FzAs.same _),aB (m:=3) rfl (aA (aE hown hg))⟩)))))
theorem rS (x:Trail):mH x=x:=by cases x;simp [mH,b6p]
def tO (i1:Nat) (s1:(List Trail)) (a1:Trail):Step ((List Trail)) (List Trail) :=
 (.next (s1++[(mH a1)]))
def cI (p0:(List Trail)):(List Trail) :=
 (Fin.get (fun s1=>s1) (aJ tO 0 ([]:List Trail) p0))
theorem oV (p0:(List Trail)) (hs:bdS Trail.bd 16777216 p0):FnOk prog 155 [.one (.s false 4 (List.map (Trail.cells false) p0))] ⟨.one (.s true 4 (List.map (Trail.cells true) (cI p0))),[],[],false⟩:=by
 refine FnOk.intro (E:=env) aK aS func155 rfl (by kernel_rfl) rfl rfl ?_
 have hg:=cI.eq_1 p0
 have hown:∀g:(List Trail),AV.Own (AV.one (.s true 4 (List.map (Trail.cells true) g))):=fun g=>fF pC _
 refine aA (aA (.inl (aB (m:=0) rfl (aA (aA (gM (fun (i:Nat) s=>s.length≤i) hg (Nat.le_refl _) [0] (fun x1=>[(3,.one (.n 0 [] 1 0 (x1.s).length)),(4,.one (.v (.int .i64 ((x1.i:Nat):Int))))]) (fun x1=>[.new ⟨4,false,List.map (Trail.cells true) x1.s,0⟩]) [some 0] ((by repeat' constructor)) (fun x1=>?_)))))))
 have hI1:=x1.hI
 try dsimp only at hI1
 refine aA (aA (bJ fun hN1=>cT (fun hi1=>have hb1:=(x1.bdy hi1).trans (tO.eq_1 ..);have hw1:=aT hi1 (by assumption);aA (aA (cC hi1 (.inl (⟨_,_,xX (p0[x1.i]'hi1) (by exact hs.get hi1),(FzAs.same _),aB (m:=2) rfl (aB (m:=3) rfl (.inl (aB (m:=4) rfl (.inl (aV (Y:=List.map (Trail.cells true) (x1.s++[(mH (p0[x1.i]'hi1))])) (by simp [bX,bP,-List.map_take,-List.map_drop,-List.drop_one,aQ,aR,jH,bY jH,iC sN];rfl) (cS (b:=48) (hs:=by have q0:=hs.1;have q1:=hI1;have q2:=hi1;refine ⟨?_,?_⟩;(show List.length _*48≤_);(try simp only [LN]);omega;(try simp only [LN]);omega) ?_))))))⟩))))) (fun hi1=>have hg:=bZ hg (x1.fin hi1);aA (aE hown hg))))
 exact aB (m:=5) rfl (x1.goE hi1 hb1 (by have q1:=hI1;simp only [List.length_append,List.length_cons,List.length_nil];omega) [some 5] ⟨rfl,⟨⟨rfl,rfl,rfl,rfl,by ((simp [LstSt.init,LstSt.step,LstInv.init,CntSt.init,CntSt.step,CntInv.init,WhlSt.init,WhlSt.step];done))⟩,(bA hw1),rfl,trivial⟩,⟨⟨rfl,rfl,rfl⟩,trivial⟩,trivial⟩)
theorem dG (l:List Trail):cI l=l:=by
 unfold cI
 rw [nD (b:=tO) (fun a=>[a]) (fun i s a=>by unfold tO;rw [rS]),List.nil_append]
 show l.flatMap (fun a=>[a])=l
 induction l with
 | nil=>rfl
 | cons a l ih=>rw [List.flatMap_cons,ih];rfl
def rR (i1:Nat) (s1:(List Stripe)) (a1:Stripe):Step ((List Stripe)) (List Stripe) :=
 (.next (s1++[(Stripe.mk a1.Held (cI a1.L))]))
def cA (p0:(List Stripe)):(List Stripe) :=
 (Fin.get (fun s1=>s1) (aJ rR 0 ([]:List Stripe) p0))
theorem a4b (p0:(List Stripe)) (hs:bdS Stripe.bd 16777216 p0):FnOk prog 117 [.one (.s false 2 (List.map (Stripe.cells false) p0))] ⟨.one (.s true 2 (List.map (Stripe.cells true) (cA p0))),[],[],false⟩:=by
 refine FnOk.intro (E:=env) aK aS func117 rfl (by kernel_rfl) rfl rfl ?_
 have hg:=cA.eq_1 p0
 have hown:∀g:(List Stripe),AV.Own (AV.one (.s true 2 (List.map (Stripe.cells true) g))):=fun g=>fF a4q _
 refine aA (aA (.inl (aB (m:=0) rfl (aA (aA (gM (fun (i:Nat) s=>s.length≤i) hg (Nat.le_refl _) [0] (fun x1=>[(3,.one (.n 0 [] 1 0 (x1.s).length)),(4,.one (.v (.int .i64 ((x1.i:Nat):Int))))]) (fun x1=>[.new ⟨2,false,List.map (Stripe.cells true) x1.s,0⟩]) [some 0] ((by repeat' constructor)) (fun x1=>?_)))))))
 have hI1:=x1.hI
 try dsimp only at hI1
 refine aA (aA (bJ fun hN1=>cT (fun hi1=>have hb1:=(x1.bdy hi1).trans (rR.eq_1 ..);have hw1:=aT hi1 (by assumption);aA (.inr (.inl ⟨(.seg 14 14 (.q 0 (.q 1 (.q 2 (.q 3 (.q 4 (.q 5 (.q 6 (.q 7 (.q 8 (.q 9 (.q 10 (.o 11 (.o 12 (.o 13 .leaf)))))))))))))) (.tail 14)),by kernel_rfl,cC hi1 (cC hi1 (⟨_,_,oV (p0[x1.i]'hi1).L (by exact hs.get hi1),(FzAs.same _),aB (m:=2) rfl (.inl (aB (m:=3) rfl (.inl (aV (Y:=List.map (Stripe.cells true) (x1.s++[(Stripe.mk (p0[x1.i]'hi1).Held (cI (p0[x1.i]'hi1).L))])) (by simp [bX,bP,-List.map_take,-List.map_drop,-List.drop_one,aQ,aR,a2d,bY a2d,iC b5l];rfl) (cS (b:=32) (hs:=by have q0:=hs.1;have q1:=hI1;have q2:=hi1;have q3:=hs.get hi1;(try have q4:=q3.1);refine ⟨?_,?_⟩;(show List.length _*32≤_);(try simp only [LN]);omega;(try simp only [LN]);omega) ?_)))))⟩))⟩))) (fun hi1=>have hg:=bZ hg (x1.fin hi1);aA (aE hown hg))))
 exact aB (m:=4) rfl (x1.goE hi1 hb1 (by have q1:=hI1;(try simp only [LN]);omega) [some 4] ⟨rfl,⟨⟨rfl,rfl,rfl,rfl,by ((simp [LstSt.init,LstSt.step,LstInv.init,CntSt.init,CntSt.step,CntInv.init,WhlSt.init,WhlSt.step];done))⟩,(bA hw1),rfl,trivial⟩,⟨⟨rfl,rfl,rfl⟩,trivial⟩,trivial⟩)
theorem eO (l:List Stripe):cA l=l:=by
 unfold cA
 rw [nD (b:=rR) (fun a=>[a]) (fun i s a=>by unfold rR;rw [dG]),List.nil_append]
 show l.flatMap (fun a=>[a])=l
 induction l with
 | nil=>rfl
 | cons a l ih=>rw [List.flatMap_cons,ih];rfl
def rP (i1:Nat) (s1:(List (List Timer))) (a1:(List Timer)):Step ((List (List Timer))) (List (List Timer)) :=
 (.next (s1++[a1]))
def pU (p0:(List (List Timer))):(List (List Timer)) :=
 (Fin.get (fun s1=>s1) (aJ rP 0 ([]:List (List Timer)) p0))
theorem qG (p0:(List (List Timer))) (hs:bdS (bdS Timer.bd) 16777216 p0):FnOk prog 156 [.one (.s false 1 (List.map (cSl false 3 Timer.cells) p0))] ⟨.one (.s true 1 (List.map (cSl true 3 Timer.cells) (pU p0))),[],[],false⟩:=by
 refine FnOk.intro (E:=env) aK aS func156 rfl (by kernel_rfl) rfl rfl ?_
 have hg:=pU.eq_1 p0
 have hown:∀g:(List (List Timer)),AV.Own (AV.one (.s true 1 (List.map (cSl true 3 Timer.cells) g))):=fun g=>fF (a3m kJ) _
 refine aA (aA (.inl (aB (m:=0) rfl (aA (aA (gM (fun (i:Nat) s=>s.length≤i) hg (Nat.le_refl _) [0] (fun x1=>[(3,.one (.n 0 [] 1 0 (x1.s).length)),(4,.one (.v (.int .i64 ((x1.i:Nat):Int))))]) (fun x1=>[.new ⟨1,false,List.map (cSl true 3 Timer.cells) x1.s,0⟩]) [some 0] ((by repeat' constructor)) (fun x1=>?_)))))))
 have hI1:=x1.hI
 try dsimp only at hI1
 refine aA (aA (bJ fun hN1=>cT (fun hi1=>have hb1:=(x1.bdy hi1).trans (rP.eq_1 ..);have hw1:=aT hi1 (by assumption);aA (.inl (aB (m:=1) rfl (cC hi1 (.inl (aV (Y:=List.map Timer.cells (p0[x1.i]'hi1)) (by simp [bX,bP,-List.map_take,-List.map_drop,-List.drop_one,aQ,aR,bR,bS,bY bR,fH bS];done) (cS (b:=24) (hs:=by have q0:=hs.1;have q1:=hI1;have q2:=hi1;have q3:=hs.get hi1;(try have q4:=q3.1);refine ⟨?_,?_⟩;(show List.length _*24≤_);(try simp only [LN]);omega;(try simp only [LN]);omega) ?_))))))) (fun hi1=>have hg:=bZ hg (x1.fin hi1);aA (aE hown hg))))
 refine aB (m:=2) rfl (.inl (aB (m:=3) rfl (.inl (aV (Y:=List.map (cSl true 3 Timer.cells) (x1.s++[(p0[x1.i]'hi1)])) (by simp [bX,bP,-List.map_take,-List.map_drop,-List.drop_one,aQ,aR,bY (b9q gD)];rfl) (cS (b:=24) (hs:=by have q0:=hs.1;have q1:=hI1;have q2:=hi1;have q3:=hs.get hi1;(try have q4:=q3.1);refine ⟨?_,?_⟩;(show List.length _*24≤_);(try simp only [LN]);omega;(try simp only [LN]);omega) ?_)))))
 exact aB (m:=4) rfl (x1.goE hi1 hb1 (by have q1:=hI1;(try simp only [LN]);omega) [some 4] ⟨rfl,⟨⟨rfl,rfl,rfl,rfl,by ((simp [LstSt.init,LstSt.step,LstInv.init,CntSt.init,CntSt.step,CntInv.init,WhlSt.init,WhlSt.step];done))⟩,(bA hw1),rfl,trivial⟩,⟨⟨rfl,rfl,rfl⟩,trivial⟩,trivial⟩)
def aP (p0:Wheel):Wheel :=
 { p0 with Near:=(pU p0.Near),Far:=(pU p0.Far) }
theorem oU (p0:Wheel) (hs:Wheel.bd 16777216 p0):FnOk prog 118 [.agg ((Wheel.cells false) p0)] ⟨.agg ((Wheel.cells true) (aP p0)),[],[],false⟩:=by
 refine FnOk.intro (E:=env) aK aS func118 rfl (by kernel_rfl) rfl rfl ?_
 have hg:=aP.eq_1 p0
 have hown:∀g:Wheel,AV.Own (AV.agg ((Wheel.cells true) g)):=fun g=>vX _
 refine aA (aB (m:=0) rfl (aB (m:=1) rfl (aA (.inr (.inr ⟨(.q 0 (.q 2 (.q 5 (.q 9 (.z 1 (.z 3 (.z 6 (.z 10 (.b 4 [1,6,10] (.b 7 [1,10] (.m 8 [1,10] (.m 11 [1] (.m 12 [] (.m 13 [] .leaf)))) 8 [1,6,10] (.m 7 [1,10] (.m 11 [1] (.m 12 [] (.m 13 [] .leaf))))) 8 [1,3,6,10] (.m 4 [1,6,10] (.m 7 [1,10] (.m 11 [1] (.m 12 [] (.m 13 [] .leaf)))))))))))))),by kernel_rfl,And.intro ?_ ?_⟩)))))
 · refine .inl (⟨_,_,qG p0.Near (by exact hs.1),(FzAs.same _),aB (m:=3) rfl (And.intro (And.intro (⟨rfl,rfl⟩) (And.intro (⟨rfl,rfl⟩) (And.intro (⟨rfl,rfl⟩) trivial))) (And.intro ?_ ?_))⟩)
   · refine .inl (⟨_,_,qG p0.Far (by exact hs.2.1),(FzAs.same _),aB (m:=5) rfl (And.intro (And.intro (⟨rfl,rfl⟩) (And.intro (⟨rfl,rfl⟩) trivial)) (.inl (aB (m:=6) rfl (And.intro (And.intro (⟨rfl,rfl⟩) (And.intro (⟨rfl,rfl⟩) trivial)) (.inl (aV (Y:=List.map Timer.cells p0.Rest) (by simp [bX,bP,-List.map_take,-List.map_drop,-List.drop_one,aQ,aR,bR,bS,bY bR,fH bS];done) (cS (b:=24) (hs:=by have q0:=hs.2.2.1;refine ⟨?_,?_⟩;(show List.length _*24≤_);(try simp only [LN]);omega;(try simp only [LN]);omega) ?_)))))))⟩)
     exact aB (m:=7) rfl (And.intro (And.intro (⟨rfl,rfl⟩) trivial) (And.intro trivial (And.intro trivial (aE hown hg))))
   refine .inl (aB (m:=4) rfl (And.intro (And.intro (⟨rfl,rfl⟩) (And.intro (⟨rfl,rfl⟩) (And.intro (⟨rfl,rfl⟩) trivial))) (.inl (⟨_,_,qG p0.Far (by exact hs.2.1),(FzAs.same _),aB (m:=6) rfl (And.intro (And.intro (⟨rfl,rfl⟩) (And.intro (⟨rfl,rfl⟩) trivial)) (.inl (aV (Y:=List.map Timer.cells p0.Rest) (by simp [bX,bP,-List.map_take,-List.map_drop,-List.drop_one,aQ,aR,bR,bS,bY bR,fH bS];done) (cS (b:=24) (hs:=by have q0:=hs.2.2.1;refine ⟨?_,?_⟩;(show List.length _*24≤_);(try simp only [LN]);omega;(try simp only [LN]);omega) ?_))))⟩))))
   exact aB (m:=7) rfl (And.intro (And.intro (⟨rfl,rfl⟩) trivial) (And.intro trivial (And.intro trivial (aE hown hg))))
 refine .inl (aB (m:=2) rfl (And.intro (And.intro (⟨rfl,rfl⟩) (And.intro (⟨rfl,rfl⟩) (And.intro (⟨rfl,rfl⟩) (And.intro (⟨rfl,rfl⟩) trivial)))) (.inl (⟨_,_,qG p0.Near (by exact hs.1),(FzAs.same _),aB (m:=4) rfl (And.intro (And.intro (⟨rfl,rfl⟩) (And.intro (⟨rfl,rfl⟩) (And.intro (⟨rfl,rfl⟩) trivial))) (.inl (⟨_,_,qG p0.Far (by exact hs.2.1),(FzAs.same _),aB (m:=6) rfl (And.intro (And.intro (⟨rfl,rfl⟩) (And.intro (⟨rfl,rfl⟩) trivial)) (.inl (aV (Y:=List.map Timer.cells p0.Rest) (by simp [bX,bP,-List.map_take,-List.map_drop,-List.drop_one,aQ,aR,bR,bS,bY bR,fH bS];done) (cS (b:=24) (hs:=by have q0:=hs.2.2.1;refine ⟨?_,?_⟩;(show List.length _*24≤_);(try simp only [LN]);omega;(try simp only [LN]);omega) ?_))))⟩)))⟩))))
 exact aB (m:=7) rfl (And.intro (And.intro (⟨rfl,rfl⟩) trivial) (And.intro trivial (And.intro trivial (aE hown hg))))
theorem c4e (l:List (List Timer)):pU l=l:=by
 unfold pU
 rw [nD (b:=rP) (fun a=>[a]) (fun i s a=>by unfold rP;simp),List.nil_append]
 show l.flatMap (fun a=>[a])=l
 induction l with
 | nil=>rfl
 | cons a l ih=>rw [List.flatMap_cons,ih];rfl
theorem cG (w:Wheel):aP w=w:=by cases w;simp [aP,c4e]
def qL (i1:Nat) (s1:(List Item)) (a1:Item):Step ((List Item)) (List Item) :=
 (.next (s1++[(Item.mk a1.Stamp (aX a1.S))]))
def jU (p0:(List Item)):(List Item) :=
 (Fin.get (fun s1=>s1) (aJ qL 0 ([]:List Item) p0))
theorem wX (p0:(List Item)) (hs:bdS Item.bd 16777216 p0):FnOk prog 119 [.one (.s false 7 (List.map (Item.cells false) p0))] ⟨.one (.s true 7 (List.map (Item.cells true) (jU p0))),[],[],false⟩:=by
 refine FnOk.intro (E:=env) aK aS func119 rfl (by kernel_rfl) rfl rfl ?_
 have hg:=jU.eq_1 p0
 have hown:∀g:(List Item),AV.Own (AV.one (.s true 7 (List.map (Item.cells true) g))):=fun g=>fF a4r _
 refine aA (aA (.inl (aB (m:=0) rfl (aA (aA (gM (fun (i:Nat) s=>s.length≤i) hg (Nat.le_refl _) [0] (fun x1=>[(3,.one (.n 0 [] 1 0 (x1.s).length)),(4,.one (.v (.int .i64 ((x1.i:Nat):Int))))]) (fun x1=>[.new ⟨7,false,List.map (Item.cells true) x1.s,0⟩]) [some 0] ((by repeat' constructor)) (fun x1=>?_)))))))
 have hI1:=x1.hI
 try dsimp only at hI1
 refine aA (aA (bJ fun hN1=>cT (fun hi1=>have hb1:=(x1.bdy hi1).trans (qL.eq_1 ..);have hw1:=aT hi1 (by assumption);aA (.inr (.inl ⟨(.seg 14 14 (.q 0 (.q 1 (.q 2 (.q 3 (.q 4 (.q 5 (.q 6 (.q 7 (.q 8 (.q 9 (.q 10 (.o 11 (.o 12 (.o 13 .leaf)))))))))))))) (.tail 14)),by kernel_rfl,cC hi1 (cC hi1 (⟨_,_,gV (p0[x1.i]'hi1).S (by exact (hs.get hi1).1),(FzAs.same _),aB (m:=2) rfl (.inl (aB (m:=3) rfl (.inl (aV (Y:=List.map (Item.cells true) (x1.s++[(Item.mk (p0[x1.i]'hi1).Stamp (aX (p0[x1.i]'hi1).S))])) (by simp [bX,bP,-List.map_take,-List.map_drop,-List.drop_one,aQ,aR,mV,bY mV,iC xK];rfl) (cS (b:=72) (hs:=by have q0:=hs.1;have q1:=hI1;have q2:=hi1;have q3:=hs.get hi1;(try have q4:=q3.1);refine ⟨?_,?_⟩;(show List.length _*72≤_);(try simp only [LN]);omega;(try simp only [LN]);omega) ?_)))))⟩))⟩))) (fun hi1=>have hg:=bZ hg (x1.fin hi1);aA (aE hown hg))))
 exact aB (m:=4) rfl (x1.goE hi1 hb1 (by have q1:=hI1;(try simp only [LN]);omega) [some 4] ⟨rfl,⟨⟨rfl,rfl,rfl,rfl,by ((simp [LstSt.init,LstSt.step,LstInv.init,CntSt.init,CntSt.step,CntInv.init,WhlSt.init,WhlSt.step];done))⟩,(bA hw1),rfl,trivial⟩,⟨⟨rfl,rfl,rfl⟩,trivial⟩,trivial⟩)
theorem vI (l:List Item):jU l=l:=by
 unfold jU
 rw [nD (b:=qL) (fun a=>[a]) (fun i s a=>by unfold qL;rfl),List.nil_append]
 show l.flatMap (fun a=>[a])=l
 induction l with
 | nil=>rfl
 | cons a l ih=>rw [List.flatMap_cons,ih];rfl
def pW (p0:Task):Task :=
 { p0 with S:=(aX p0.S),Hand:=(jU p0.Hand) }
theorem b4l (p0:Task) (hs:Task.bd 16777216 p0):FnOk prog 120 [.agg ((Task.cells false) p0)] ⟨.agg ((Task.cells true) (pW p0)),[],[],false⟩:=by
 refine FnOk.intro (E:=env) aK aS func120 rfl (by kernel_rfl) rfl rfl ?_
 have hg:=pW.eq_1 p0
 have hown:∀g:Task,AV.Own (AV.agg ((Task.cells true) g)):=fun g=>b8k _
 exact aA (aB (m:=0) rfl (aB (m:=1) rfl (aA (aB (m:=2) rfl (aA (.inl (⟨_,_,gV p0.S (by exact hs.1.1),(FzAs.same _),aB (m:=4) rfl (aA (.inl (⟨_,_,wX p0.Hand (by exact hs.2),(FzAs.same _),aB (m:=6) rfl (aA (aE hown hg))⟩)))⟩)))))))
theorem b0w (x:Task):pW x=x:=by cases x;simp [pW,pV,vI]
def wL (p0:Deed):Deed :=
 { p0 with S:=(aX p0.S) }
theorem b4k (p0:Deed) (hs:Deed.bd 16777216 p0):FnOk prog 158 [.agg ((Deed.cells false) p0)] ⟨.agg ((Deed.cells true) (wL p0)),[],[],false⟩:=by
 refine FnOk.intro (E:=env) aK aS func158 rfl (by kernel_rfl) rfl rfl ?_
 have hg:=wL.eq_1 p0
 have hown:∀g:Deed,AV.Own (AV.agg ((Deed.cells true) g)):=fun g=>a9p _
 exact aA (aB (m:=0) rfl (aB (m:=1) rfl (aA (.inl (⟨_,_,gV p0.S (by exact hs.1),(FzAs.same _),aB (m:=3) rfl (aA (aE hown hg))⟩)))))
def tN (i1:Nat) (s1:(List Deed)) (a1:Deed):Step ((List Deed)) (List Deed) :=
 (.next (s1++[(wL a1)]))
def uG (p0:(List Deed)):(List Deed) :=
 (Fin.get (fun s1=>s1) (aJ tN 0 ([]:List Deed) p0))
theorem b7c (p0:(List Deed)) (hs:bdS Deed.bd 16777216 p0):FnOk prog 121 [.one (.s false 20 (List.map (Deed.cells false) p0))] ⟨.one (.s true 20 (List.map (Deed.cells true) (uG p0))),[],[],false⟩:=by
 refine FnOk.intro (E:=env) aK aS func121 rfl (by kernel_rfl) rfl rfl ?_
 have hg:=uG.eq_1 p0
 have hown:∀g:(List Deed),AV.Own (AV.one (.s true 20 (List.map (Deed.cells true) g))):=fun g=>fF a9p _
 refine aA (aA (.inl (aB (m:=0) rfl (aA (aA (gM (fun (i:Nat) s=>s.length≤i) hg (Nat.le_refl _) [0] (fun x1=>[(3,.one (.n 0 [] 1 0 (x1.s).length)),(4,.one (.v (.int .i64 ((x1.i:Nat):Int))))]) (fun x1=>[.new ⟨20,false,List.map (Deed.cells true) x1.s,0⟩]) [some 0] ((by repeat' constructor)) (fun x1=>?_)))))))
 have hI1:=x1.hI
 try dsimp only at hI1
 refine aA (aA (bJ fun hN1=>cT (fun hi1=>have hb1:=(x1.bdy hi1).trans (tN.eq_1 ..);have hw1:=aT hi1 (by assumption);aA (aA (cC hi1 (.inl (⟨_,_,b4k (p0[x1.i]'hi1) (by exact hs.get hi1),(FzAs.same _),aB (m:=2) rfl (aB (m:=3) rfl (.inl (aB (m:=4) rfl (.inl (aV (Y:=List.map (Deed.cells true) (x1.s++[(wL (p0[x1.i]'hi1))])) (by simp [bX,bP,-List.map_take,-List.map_drop,-List.drop_one,aQ,aR,rJ,bY rJ,iC a3i];rfl) (cS (b:=168) (hs:=by have q0:=hs.1;have q1:=hI1;have q2:=hi1;have q3:=hs.get hi1;(try have q4:=q3.1);refine ⟨?_,?_⟩;(show List.length _*168≤_);(try simp only [LN]);omega;(try simp only [LN]);omega) ?_))))))⟩))))) (fun hi1=>have hg:=bZ hg (x1.fin hi1);aA (aE hown hg))))
 exact aB (m:=5) rfl (x1.goE hi1 hb1 (by have q1:=hI1;(try simp only [LN]);omega) [some 5] ⟨rfl,⟨⟨rfl,rfl,rfl,rfl,by ((simp [LstSt.init,LstSt.step,LstInv.init,CntSt.init,CntSt.step,CntInv.init,WhlSt.init,WhlSt.step];done))⟩,(bA hw1),rfl,trivial⟩,⟨⟨rfl,rfl,rfl⟩,trivial⟩,trivial⟩)
theorem b3l (l:List Deed):uG l=l:=by
 unfold uG
 rw [nD (b:=tN) (fun a=>[a]) (fun i s a=>by unfold tN;rfl),List.nil_append]
 show l.flatMap (fun a=>[a])=l
 induction l with
 | nil=>rfl
 | cons a l ih=>rw [List.flatMap_cons,ih];rfl
def rQ (i1:Nat) (s1:(List Task)) (a1:Task):Step ((List Task)) World :=
 (.next (s1++[(pW a1)]))
def iH (p0:World):World :=
 (Fin.get (fun s1=>{ p0 with C:=(aU p0.C),St:=(cA p0.St),W:=(aP p0.W),Queue:=(jU p0.Queue),Out:=(jU p0.Out),Tasks:=s1,Deeds:=(uG p0.Deeds) }) (aJ rQ 0 ([]:List Task) p0.Tasks))
theorem a3z (p0:World) (hs:World.bd 16777216 p0):FnOk prog 76 [.agg ((World.cells false) p0)] ⟨.agg ((World.cells true) (iH p0)),[],[],false⟩:=by
 refine FnOk.intro (E:=env) aK aS func76 rfl (by kernel_rfl) rfl rfl ?_
 have hg:=iH.eq_1 p0
 have hown:∀g:World,AV.Own (AV.agg ((World.cells true) g)):=fun g=>b5s _
 refine aA (aB (m:=0) rfl (aB (m:=1) rfl (aA (aB (m:=2) rfl (aA (.inl (⟨_,_,a4a p0.C (by exact hs.1),(FzAs.same _),aB (m:=4) rfl (aB (m:=5) rfl (aA (aA (.inl (⟨_,_,a4b p0.St (by exact hs.2.1),(FzAs.same _),aB (m:=7) rfl (aA (.inl (aB (m:=8) rfl (.inl (aV (Y:=List.map Verdict.cells p0.Cache) (by simp [bX,bP,-List.map_take,-List.map_drop,-List.drop_one,aQ,aR,mA,mB,bY mA,fH mB];done) (cS (b:=24) (hs:=by have q0:=hs.2.2.1.1;have q3:=hs.2.2.2.2.1.1;(try have q1:=hI1);(try have q2:=hi1);have q4:=hs.2.2.2.2.2.2.2.1.1;refine ⟨?_,?_⟩;(show List.length _*24≤_);(try simp only [LN]);omega;(try simp only [LN]);omega) ?_))))))⟩)))))⟩)))))))
 refine aB (m:=9) rfl (aA (.inl (⟨_,_,oU p0.W (by exact hs.2.2.2.1),(FzAs.same _),aB (m:=11) rfl (aB (m:=14) rfl (aA (aA (.inl (aB (m:=15) rfl (.inl (aV (Y:=List.map Timer.cells p0.Due) (by simp [bX,bP,-List.map_take,-List.map_drop,-List.drop_one,aQ,aR,bR,bS,bY bR,fH bS];done) (cS (b:=24) (hs:=by have q0:=hs.2.2.1.1;have q3:=hs.2.2.2.2.1.1;(try have q1:=hI1);(try have q2:=hi1);have q4:=hs.2.2.2.2.2.2.2.1.1;refine ⟨?_,?_⟩;(show List.length _*24≤_);(try simp only [LN]);omega;(try simp only [LN]);omega) ?_))))))))⟩)))
 refine aB (m:=16) rfl (aA (.inl (⟨_,_,wX p0.Queue (by exact hs.2.2.2.2.2.1),(FzAs.same _),aB (m:=18) rfl (aA (.inl (⟨_,_,wX p0.Out (by exact hs.2.2.2.2.2.2.1),(FzAs.same _),aB (m:=20) rfl (aA (.inl (aB (m:=21) rfl (aA (aA (gM (fun (i:Nat) s=>s.length≤i) hg (Nat.le_refl _) [1,2,3] (fun x1=>[(6,.one (.v (.int .i64 ((x1.i:Nat):Int))))]) (fun x1=>[.keep 0,.keep 1,.new ⟨32,true,[[.v (.int .i64 (aU p0.C).Stripes),.v (.int .i64 (aU p0.C).Wait),.v (.int .i64 (aU p0.C).Budget),.v (.int .i64 (aU p0.C).Cache),.v (.int .i64 (aU p0.C).Queue),.v (.int .i64 (aU p0.C).Rate),.v (.int .i64 (aU p0.C).Burst),.v (.int .i64 (aU p0.C).Rule.Kind),.v (.int .i64 (aU p0.C).Rule.N),.v (.string (aU p0.C).Rule.Key),.v (.string (aU p0.C).Rule.Text),.n 4 [] 1 0 ((aU p0.C).Rule.L).length,.v (.int .i64 p0.Time),.v (.bool p0.Shut),.n 7 [] 1 0 ((cA p0.St)).length,.v (.int .i64 p0.RuleHeld),.v (.int .i64 p0.B.Rate),.v (.int .i64 p0.B.Burst),.v (.int .i64 p0.B.Tokens),.v (.int .i64 p0.B.At),.n 9 [] 1 0 (p0.Cache).length,.v (.int .i64 p0.Used),.v (.int .i64 (aP p0.W).Now),.n 11 [] 1 0 ((aP p0.W).Near).length,.n 12 [] 1 0 ((aP p0.W).Far).length,.n 13 [] 1 0 ((aP p0.W).Rest).length,.n 16 [] 1 0 (p0.Due).length,.n 18 [] 1 0 ((jU p0.Queue)).length,.n 20 [] 1 0 ((jU p0.Out)).length,.n 21 [] 1 0 (x1.s).length,.s false 20 (List.map (Deed.cells false) p0.Deeds),.v (.int .i64 p0.Next)]],0⟩,.dead,.keep 4,.dead,.dead,.keep 7,.dead,.keep 9,.dead,.keep 11,.keep 12,.keep 13,.dead,.dead,.keep 16,.dead,.keep 18,.dead,.keep 20,.new ⟨12,false,List.map (Task.cells true) x1.s,0⟩]) [some 0,some 1,some 2,none,some 4,none,none,some 7,none,some 9,none,some 11,some 12,some 13,none,none,some 16,none,some 18,none,some 20,some 21] ((by repeat' first|constructor|(simp;done))) (fun x1=>?_)))))))⟩)))⟩)))
 have hI1:=x1.hI
 try dsimp only at hI1
 refine aA (aA (bJ fun hN1=>cT (fun hi1=>have hb1:=(x1.bdy hi1).trans (rQ.eq_1 ..);have hw1:=aT hi1 (by assumption);aA (aA (cC hi1 (.inl (⟨_,_,b4l (p0.Tasks[x1.i]'hi1) (by exact hs.2.2.2.2.2.2.2.1.get hi1),(FzAs.same _),aB (m:=23) rfl (aB (m:=25) rfl (.inl (aB (m:=26) rfl (.inl (aV (Y:=List.map (Task.cells true) (x1.s++[(pW (p0.Tasks[x1.i]'hi1))])) (by simp [bX,bP,-List.map_take,-List.map_drop,-List.drop_one,aQ,aR,a8h,bY a8h,iC c2o];rfl) (cS (b:=128) (hs:=by have q0:=hs.2.2.1.1;have q3:=hs.2.2.2.2.1.1;(try have q1:=hI1);(try have q2:=hi1);have q4:=hs.2.2.2.2.2.2.2.1.1;refine ⟨?_,?_⟩;(show List.length _*128≤_);(try simp only [LN]);omega;(try simp only [LN]);omega) ?_))))))⟩))))) (fun hi1=>have hg:=bZ hg (x1.fin hi1);aA (.inl (⟨_,_,b7c p0.Deeds (by exact hs.2.2.2.2.2.2.2.2),(FzAs.same _),aB (m:=23) rfl (aA (aE hown hg))⟩)))))
 exact aB (m:=27) rfl (x1.goE hi1 hb1 (by have q1:=hI1;(try simp only [LN]);omega) [some 0,some 1,some 2,none,some 4,none,none,some 7,none,some 9,none,some 11,some 12,some 13,none,none,some 16,none,some 18,none,some 20,some 27] ⟨rfl,⟨(bA hw1),⟨rfl,rfl,rfl,rfl⟩,⟨rfl,rfl,rfl,rfl⟩,⟨rfl,rfl,rfl,rfl⟩,trivial⟩,(by repeat' first|constructor|(simp [LstSt.init,LstSt.step,LstInv.init,CntSt.init,CntSt.step,CntInv.init,WhlSt.init,WhlSt.step];done)),trivial⟩)
theorem tV (w:World):iH w=w:=by
 unfold iH
 rw [nD (b:=rQ) (fun a=>[a]) (fun i s a=>by unfold rQ;rw [b0w]),List.nil_append,Fin.get_fin,wM,eO,cG,vI,vI,b3l]
 have e:w.Tasks.flatMap (fun a=>[a])=w.Tasks:=by
  induction w.Tasks with
  | nil=>rfl
  | cons a l ih=>rw [List.flatMap_cons,ih];rfl
 rw [e]
theorem WI.world {n m:Nat} {w:World} (h:WI n w) (hm:n≤m) (h2:1000≤m):World.bd m w :=
 ⟨b6o h2 h.c,bdS.mono h.s hm (jS hm),bdS.mono h.v hm (fun _ _=>trivial),dL (by omega) h.wb,bdS.mono h.d hm (fun _ _=>trivial),bdS.mono h.q hm (nN hm),bdS.mono h.o hm (nN hm),bdS.mono h.tb hm (b6n hm),bdS.mono h.db hm (a7v hm)⟩
def aO (p0:Int) (p1:Int) (p2:Int):Bool :=
 (bif (decide (p0≥p1)) then (decide (p0≤p2)) else false)
theorem cR (p0:Int) (p1:Int) (p2:Int):FnOk prog 127 [.one (.v (.int .i64 p0)),.one (.v (.int .i64 p1)),.one (.v (.int .i64 p2))] ⟨.one (.v (.bool (aO p0 p1 p2))),[],[],false⟩:=by
 refine FnOk.intro (E:=env) aK aS func127 rfl (by kernel_rfl) rfl rfl ?_
 have hg:=aO.eq_1 p0 p1 p2
 have hown:=dP
 exact aA (aA (brD hg (fun hg h1=>aE hown hg) (fun hg h1=>aE hown hg)))
theorem bD {n a b:Int}:aO n a b=true↔a≤n∧n≤b:=by unfold aO;simp [Bool.cond_eq_ite]
def lL (r0:(Pol→Int)) (i1:Nat) (s1:Int) (a1:Pol):Step (Int) Int :=
 (.next (IntKind.i64.wrap (s1+(r0 a1))))
def cD:Nat→Pol→Int
 | 0,_=>default
 | n+1,p0=>(Fin.get (fun s1=>s1) (aJ (lL (cD n)) 0 1 p0.L))
theorem b0n:∀(n:Nat) (p0:Pol),Pol.dep p0 < n→FnOk prog 172 [.agg (Pol.opn false p0)] ⟨.one (.v (.int .i64 (cD n p0))),[],[],false⟩:=by
 intro n
 induction n with
 | zero=>intro p0 hd0;omega
 | succ n ih =>
   intro p0 hd0
   refine FnOk.intro (E:=env) aK aS func172 rfl (by kernel_rfl) rfl rfl ?_
   have hg:cD (n+1) p0=_:=cD.eq_2 ..
   have hown:=iN
   refine aA ?_
   refine aB (m:=0) rfl ?_
   refine aA ?_
   refine aA ?_
   refine aA ?_
   refine dW hg [1] (fun x1=>[(3,.one (.v (.int .i64 x1.s))),(4,.one (.v (.int .i64 ((x1.i:Nat):Int))))]) (fun x1=>[.keep 0]) [some 0] ?_ (fun x1=>?_)
   · exact (by repeat' constructor)
   refine aA ?_
   refine aA ?_
   refine bJ fun hN1=>?_
   refine cT (fun hi1=>?_) (fun hi1=>?_)
   · have hb1:=(x1.bdy hi1).trans (lL.eq_1 ..)
     have hw1:=aT hi1 (by assumption)
     refine aA ?_
     refine a0y (Pol.cells_eq false) hi1 ?_
     refine .inl (⟨_,_,ih (p0.L[x1.i]'hi1) (by exact Nat.lt_of_lt_of_le (Pol.dep_lt (List.getElem_mem _)) (Nat.le_of_lt_succ hd0)),(FzAs.same _),?_⟩)
     refine aB (m:=2) rfl ?_
     exact x1.goE hi1 hb1 [some 0] ⟨rfl,⟨rfl,(bA hw1),⟨rfl,rfl,rfl,rfl⟩,trivial⟩,(by repeat' constructor),trivial⟩
   have hg:=bZ hg (x1.fin hi1)
   refine aA ?_
   exact aE hown hg
def qV (p0:Pol):Int:=cD (Pol.dep p0+1) p0
theorem b2o (p0:Pol):FnOk prog 172 [.agg (Pol.opn false p0)] ⟨.one (.v (.int .i64 (qV p0))),[],[],false⟩:=b0n _ p0 (Nat.lt_succ_self _)
def tP (p0:ByteArray) (i1:Nat) (s1:Unit):Step (Unit) Bool :=
 (bif (decide ((((p0).data.getD i1 0).toNat:Int) < 97)) then (.done false) else (bif (decide ((((p0).data.getD i1 0).toNat:Int) > 122)) then (.done false) else (.next ())))
def lY (p0:ByteArray):Bool :=
 (Fin.get (fun s1=>(aO (((p0).size:Nat):Int) 1 8)) (cJ (tP p0) 0 () (p0).size))
theorem zM (p0:ByteArray):FnOk prog 209 [.one (.v (.string p0))] ⟨.one (.v (.bool (lY p0))),[],[],false⟩:=by
 refine FnOk.intro (E:=env) aK aS func209 rfl (by kernel_rfl) rfl rfl ?_
 have hg:=lY.eq_1 p0
 have hown:=dP
 exact aA (aA (aA (a0w hg [0] (fun x1=>[(3,.one (.v (.int .i64 ((x1.i:Nat):Int))))]) (fun x1=>[]) [] ((by repeat' constructor)) (fun x1=>aA (aA (vP fun hN1=>cT (fun hi1=>have hb1:=(x1.bdy hi1).trans (tP.eq_1 ..);have hw1:=aT hi1 (by assumption);aA (aA (bK (by (omega)) (nC hb1 (fun hb1 h2=>bK (by (omega)) (brD hb1 (fun hb1 h3=>aA (have hg:=cQ hg (x1.outD hi1 hb1);aE hown hg)) (fun hb1 h3=>x1.goE hi1 hb1 [] ⟨rfl,⟨(bA hw1),rfl,trivial⟩,trivial,trivial⟩))) (fun hb1 h2=>aA (have hg:=cQ hg (x1.outD hi1 hb1);aE hown hg)))))) (fun hi1=>have hg:=bZ hg (x1.fin hi1);aA (vP fun hN4=>.inl (⟨_,_,cR (((p0).size:Nat):Int) 1 8,(FzAs.same _),aB (m:=1) rfl (aE hown hg)⟩)))))))))
def mR (p0:ByteArray) (i1:Nat) (s1:Unit):Step (Unit) Bool :=
 (bif (decide ((((p0).data.getD i1 0).toNat:Int) < 32)) then (.done false) else (bif (decide ((((p0).data.getD i1 0).toNat:Int) > 126)) then (.done false) else (bif ((((p0).data.getD i1 0).toNat:Int)==34) then (.done false) else (.next ()))))
def kT (p0:ByteArray):Bool :=
 (Fin.get (fun s1=>(decide ((((p0).size:Nat):Int)≤20))) (cJ (mR p0) 0 () (p0).size))
theorem a4c (p0:ByteArray):FnOk prog 210 [.one (.v (.string p0))] ⟨.one (.v (.bool (kT p0))),[],[],false⟩:=by
 refine FnOk.intro (E:=env) aK aS func210 rfl (by kernel_rfl) rfl rfl ?_
 have hg:=kT.eq_1 p0
 have hown:=dP
 exact aA (aA (aA (a0w hg [0] (fun x1=>[(3,.one (.v (.int .i64 ((x1.i:Nat):Int))))]) (fun x1=>[]) [] ((by repeat' constructor)) (fun x1=>aA (aA (vP fun hN1=>cT (fun hi1=>have hb1:=(x1.bdy hi1).trans (mR.eq_1 ..);have hw1:=aT hi1 (by assumption);aA (aA (bK (by (omega)) (nC hb1 (fun hb1 h2=>bK (by (omega)) (nC hb1 (fun hb1 h3=>bK (by (omega)) (brQ hb1 (fun hb1 h4=>aA (have hg:=cQ hg (x1.outD hi1 hb1);aE hown hg)) (fun hb1 h4=>x1.goE hi1 hb1 [] ⟨rfl,⟨(bA hw1),rfl,trivial⟩,trivial,trivial⟩))) (fun hb1 h3=>aA (have hg:=cQ hg (x1.outD hi1 hb1);aE hown hg)))) (fun hb1 h2=>aA (have hg:=cQ hg (x1.outD hi1 hb1);aE hown hg)))))) (fun hi1=>have hg:=bZ hg (x1.fin hi1);aA (vP fun hN5=>aE hown hg))))))))
def zB (p0:Pol):Step (Bool) Bool :=
 (bif (p0.Kind==1) then (.next (p0.Kind==1)) else (bif (p0.Kind==2) then (.next (p0.Kind==2)) else (.next (p0.Kind==6))))
def zA (p0:Pol):Step (Bool) Bool :=
 (bif (p0.Kind==7) then (.next (p0.Kind==7)) else (.next (p0.Kind==8)))
def iB (p0:Pol):Bool :=
 (Step.get (fun s1=>(bif s1 then (bif (p0.N==0) then (bif (decide (p0.Key=(ByteArray.mk #[]))) then (bif (decide (p0.Text=(ByteArray.mk #[]))) then ((((p0.L).length:Nat):Int)==0) else false) else false) else false) else (bif (p0.Kind==3) then (bif (aO p0.N 0 2147483647) then (bif (decide (p0.Key=(ByteArray.mk #[]))) then (bif (decide (p0.Text=(ByteArray.mk #[]))) then ((((p0.L).length:Nat):Int)==0) else false) else false) else false) else (bif (p0.Kind==4) then (bif (p0.N==0) then (bif (lY p0.Key) then (bif (kT p0.Text) then ((((p0.L).length:Nat):Int)==0) else false) else false) else false) else (bif (p0.Kind==5) then (bif (aO p0.N 0 2147483647) then (bif (lY p0.Key) then (bif (decide (p0.Text=(ByteArray.mk #[]))) then ((((p0.L).length:Nat):Int)==0) else false) else false) else false) else (Step.get (fun s2=>(bif s2 then (bif (p0.N==0) then (bif (decide (p0.Key=(ByteArray.mk #[]))) then (bif (decide (p0.Text=(ByteArray.mk #[]))) then (aO (((p0.L).length:Nat):Int) 1 4) else false) else false) else false) else (bif (p0.Kind==9) then (bif (p0.N==0) then (bif (decide (p0.Key=(ByteArray.mk #[]))) then (bif (decide (p0.Text=(ByteArray.mk #[]))) then ((((p0.L).length:Nat):Int)==1) else false) else false) else false) else false))) (zA p0))))))) (zB p0))
theorem c0n (p0:Pol):FnOk prog 189 [.agg (Pol.opn false p0)] ⟨.one (.v (.bool (iB p0))),[],[],false⟩:=by
 refine FnOk.intro (E:=env) aK aS func189 rfl (by kernel_rfl) rfl rfl ?_
 have hg:=iB.eq_1 p0
 have hown:=dP
 exact aA (aB (m:=0) rfl (aA (aA (eA hg [1,4] (fun x1=>[(5,.one (.v (.bool x1.s)))]) (fun x1=>[.keep 0]) (fun hb1=>have hb1:=hb1.trans (zB.eq_1 ..);aA (brQ hb1 (fun hb1 h1=>.inl ⟨⟨_,hb1⟩,[some 0],(by repeat' constructor)⟩) (fun hb1 h1=>aA (brQ hb1 (fun hb1 h2=>.inl ⟨⟨_,hb1⟩,[some 0],(by repeat' constructor)⟩) (fun hb1 h2=>.inl ⟨⟨_,hb1⟩,[some 0],(by repeat' constructor)⟩))))) (fun x1 hg=>brE hg (fun hg h3=>aA (brQ hg (fun hg h4=>brD hg (fun hg h5=>brD hg (fun hg h6=>bJ fun hN7=>aE hown hg) (fun hg h6=>aE hown hg)) (fun hg h5=>aE hown hg)) (fun hg h4=>aE hown hg))) (fun hg h3=>aA (brQ hg (fun hg h8=>aA (.inl (⟨_,_,cR p0.N 0 2147483647,(FzAs.same _),aB (m:=2) rfl (brE hg (fun hg h9=>brD hg (fun hg h10=>brD hg (fun hg h11=>bJ fun hN12=>aE hown hg) (fun hg h11=>aE hown hg)) (fun hg h10=>aE hown hg)) (fun hg h9=>aE hown hg))⟩))) (fun hg h8=>aA (brQ hg (fun hg h13=>aA (brQ hg (fun hg h14=>.inl (⟨_,_,zM p0.Key,(FzAs.same _),aB (m:=2) rfl (brE hg (fun hg h15=>.inl (⟨_,_,a4c p0.Text,(FzAs.same _),aB (m:=3) rfl (brE hg (fun hg h16=>bJ fun hN17=>aE hown hg) (fun hg h16=>aE hown hg))⟩)) (fun hg h15=>aE hown hg))⟩)) (fun hg h14=>aE hown hg))) (fun hg h13=>aA (brQ hg (fun hg h18=>aA (.inl (⟨_,_,cR p0.N 0 2147483647,(FzAs.same _),aB (m:=2) rfl (brE hg (fun hg h19=>.inl (⟨_,_,zM p0.Key,(FzAs.same _),aB (m:=3) rfl (brE hg (fun hg h20=>brD hg (fun hg h21=>bJ fun hN22=>aE hown hg) (fun hg h21=>aE hown hg)) (fun hg h20=>aE hown hg))⟩)) (fun hg h19=>aE hown hg))⟩))) (fun hg h18=>eA hg [1] (fun x2=>[(91,.one (.v (.bool x2.s)))]) (fun x2=>[.keep 0]) (fun hb2=>have hb2:=hb2.trans (zA.eq_1 ..);aA (brQ hb2 (fun hb2 h23=>.inl ⟨⟨_,hb2⟩,[some 0],(by repeat' constructor)⟩) (fun hb2 h23=>.inl ⟨⟨_,hb2⟩,[some 0],(by repeat' constructor)⟩))) (fun x2 hg=>brE hg (fun hg h24=>aA (brQ hg (fun hg h25=>brD hg (fun hg h26=>brD hg (fun hg h27=>bJ fun hN28=>.inl (⟨_,_,cR (((p0.L).length:Nat):Int) 1 4,(FzAs.same _),aB (m:=2) rfl (aE hown hg)⟩)) (fun hg h27=>aE hown hg)) (fun hg h26=>aE hown hg)) (fun hg h25=>aE hown hg))) (fun hg h24=>aA (brQ hg (fun hg h29=>brQ hg (fun hg h30=>brD hg (fun hg h31=>brD hg (fun hg h32=>bJ fun hN33=>aE hown hg) (fun hg h32=>aE hown hg)) (fun hg h31=>aE hown hg)) (fun hg h30=>aE hown hg)) (fun hg h29=>aE hown hg))))))))))))))))
def a5q:Nat→Pol→Prop
 | 0,_=>False
 | d+1,p=>iB p=true∧p.L.length≤2∧∀q∈p.L,a5q d q
theorem c2v:∀(d:Nat) (p:Pol),a5q d p→Pol.bd 2 p
 | 0,_,h=>h.elim
 | d+1,p,h=>Pol.bd_eq.2 ⟨trivial,trivial,h.2.1,fun q hq=>c2v d q (h.2.2 q hq)⟩
theorem two {α:Type} {l:List α} (h:l.length≤2):l=[]∨(∃a,l=[a])∨∃a b,l=[a,b]:=by
 match l,h with
 | [],_=>exact .inl rfl
 | [a],_=>exact .inr (.inl ⟨a,rfl⟩)
 | [a,b],_=>exact .inr (.inr ⟨a,b,rfl⟩)
 | _ :: _ :: _ :: _,h=>exact absurd h (by simp only [List.length_cons];omega)
theorem b1f:∀(d n:Nat) (p:Pol),d≤3→a5q d p→Pol.dep p < n→0≤cD n p∧cD n p+1≤2 ^ d
 | 0,_,_,_,h,_=>h.elim
 | d+1,0,p,_,_,hn=>absurd hn (Nat.not_lt_zero _)
 | d+1,n+1,p,hd,h,hn=>by
   have ih:∀q∈p.L,0≤cD n q∧cD n q+1≤2 ^ d:=fun q hq=>b1f d n q (by omega) (h.2.2 q hq) (by have:=Pol.dep_lt hq;omega)
   rw [cD.eq_2]
   have h8:(2:Int) ^ d≤4:=by
    have:d=0∨d=1∨d=2:=by omega
    rcases this with rfl | rfl | rfl <;> decide
   have hp:(2:Int) ^ (d+1)=2 ^ d+2 ^ d:=by rw [Int.pow_succ];omega
   have h1:(1:Int)≤2 ^ d:=by
    have:d=0∨d=1∨d=2:=by omega
    rcases this with rfl | rfl | rfl <;> decide
   rcases two h.2.1 with e | ⟨a,e⟩ | ⟨a,b,e⟩
   · rw [e];show 0≤(1:Int)∧(1:Int)+1≤_;omega
   · have qa:=ih a (by rw [e];exact List.mem_cons_self ..)
     rw [e]
     show 0≤IntKind.i64.wrap (1+cD n a)∧IntKind.i64.wrap (1+cD n a)+1≤_
     rw [wrap_small (by omega) (by omega)]
     omega
   · have qa:=ih a (by rw [e];exact List.mem_cons_self ..)
     have qb:=ih b (by rw [e];exact List.mem_cons_of_mem _ (List.mem_cons_self ..))
     rw [e]
     show 0≤IntKind.i64.wrap (IntKind.i64.wrap (1+cD n a)+cD n b)∧IntKind.i64.wrap (IntKind.i64.wrap (1+cD n a)+cD n b)+1≤_
     rw [wrap_small (n:=1+cD n a) (by omega) (by omega),wrap_small (by omega) (by omega)]
     omega
def gW (r0:(Pol→Int→Bool)) (p1:Int) (i1:Nat) (s1:Unit) (a1:Pol):Step (Unit) Bool :=
 (bif (!(r0 a1 (IntKind.i64.wrap (p1+1)))) then (.done false) else (.next ()))
def dY:Nat→Pol→Int→Bool
 | 0,_,_=>default
 | n+1,p0,p1=>(bif (decide (p1 > 4)) then false else (bif (!(iB p0)) then false else (Fin.get (fun s1=>true) (aJ (gW (dY n) p1) 0 () p0.L))))
theorem b5c:∀(n:Nat) (p0:Pol) (p1:Int),Pol.dep p0 < n→FnOk prog 173 [.agg (Pol.opn false p0),.one (.v (.int .i64 p1))] ⟨.one (.v (.bool (dY n p0 p1))),[],[],false⟩:=by
 intro n
 induction n with
 | zero=>intro p0 p1 hd0;omega
 | succ n ih =>
   intro p0 p1 hd0
   refine FnOk.intro (E:=env) aK aS func173 rfl (by kernel_rfl) rfl rfl ?_
   have hg:dY (n+1) p0 p1=_:=dY.eq_2 ..
   have hown:=dP
   refine aA ?_
   refine aB (m:=0) rfl ?_
   refine aA ?_
   refine aA ?_
   refine nC hg (fun hg h1=>?_) (fun hg h1=>?_)
   · refine .inl (⟨_,_,c0n p0,(FzAs.same _),?_⟩)
     refine aB (m:=2) rfl ?_
     refine brE hg (fun hg h2=>?_) (fun hg h2=>?_)
     · refine aA ?_
       exact aE hown hg
     · refine aA ?_
       refine aA ?_
       refine dW hg [1,2] (fun x1=>[(5,.one (.v (.int .i64 ((x1.i:Nat):Int))))]) (fun x1=>[.keep 0,.dead]) [some 0,none] ?_ (fun x1=>?_)
       · exact (by repeat' constructor)
       refine aA ?_
       refine aA ?_
       refine bJ fun hN3=>?_
       refine cT (fun hi1=>?_) (fun hi1=>?_)
       · have hb1:=(x1.bdy hi1).trans (gW.eq_1 ..)
         have hw1:=aT hi1 (by assumption)
         refine aA ?_
         refine aA ?_
         refine a0y (Pol.cells_eq false) hi1 ?_
         refine .inl (⟨_,_,ih (p0.L[x1.i]'hi1) (IntKind.i64.wrap (p1+1)) (by exact Nat.lt_of_lt_of_le (Pol.dep_lt (List.getElem_mem _)) (Nat.le_of_lt_succ hd0)),(FzAs.same _),?_⟩)
         refine aB (m:=3) rfl ?_
         refine brE hb1 (fun hb1 h4=>?_) (fun hb1 h4=>x1.goE hi1 hb1 [some 0,none] ⟨rfl,⟨(bA hw1),rfl,⟨rfl,rfl,rfl,rfl⟩,trivial⟩,(by repeat' constructor),trivial⟩)
         refine aA ?_
         have hg:=cQ hg (x1.outD hi1 hb1)
         exact aE hown hg
       have hg:=bZ hg (x1.fin hi1)
       refine aA ?_
       exact aE hown hg
   · refine aA ?_
     exact aE hown hg
def uF (p0:Pol) (p1:Int):Bool:=dY (Pol.dep p0+1) p0 p1
theorem b6x (p0:Pol) (p1:Int):FnOk prog 173 [.agg (Pol.opn false p0),.one (.v (.int .i64 p1))] ⟨.one (.v (.bool (uF p0 p1))),[],[],false⟩:=b5c _ p0 p1 (Nat.lt_succ_self _)
def qN (p0:Pol):Bool :=
 (bif (decide ((qV p0)≤12)) then (uF p0 1) else false)
theorem c0x (p0:Pol):FnOk prog 151 [.agg (Pol.opn false p0)] ⟨.one (.v (.bool (qN p0))),[],[],false⟩:=by
 refine FnOk.intro (E:=env) aK aS func151 rfl (by kernel_rfl) rfl rfl ?_
 have hg:=qN.eq_1 p0
 have hown:=dP
 exact aA (aB (m:=0) rfl (aA (.inl (⟨_,_,b2o p0,(FzAs.same _),aB (m:=2) rfl (brD hg (fun hg h1=>.inl (⟨_,_,b6x p0 1,(FzAs.same _),aB (m:=3) rfl (aE hown hg)⟩)) (fun hg h1=>aE hown hg))⟩))))
def dH (p0:Conf):Bool :=
 (bif (aO p0.Stripes 1 3) then (bif (aO p0.Wait 1 50) then (bif (aO p0.Budget 1 190) then (bif (aO p0.Cache 1 6) then (bif (aO p0.Queue 1 4) then (bif (aO p0.Rate 0 99) then (bif (aO p0.Burst 0 999) then (qN p0.Rule) else false) else false) else false) else false) else false) else false) else false)
theorem b7g (p0:Conf):FnOk prog 111 [.agg ((Conf.cells false) p0)] ⟨.one (.v (.bool (dH p0))),[],[],false⟩:=by
 refine FnOk.intro (E:=env) aK aS func111 rfl (by kernel_rfl) rfl rfl ?_
 have hg:=dH.eq_1 p0
 have hown:=dP
 exact aA (aB (m:=0) rfl (aA (.inl (⟨_,_,cR p0.Stripes 1 3,(FzAs.same _),aB (m:=2) rfl (brE hg (fun hg h1=>.inl (⟨_,_,cR p0.Wait 1 50,(FzAs.same _),aB (m:=3) rfl (brE hg (fun hg h2=>.inl (⟨_,_,cR p0.Budget 1 190,(FzAs.same _),aB (m:=4) rfl (brE hg (fun hg h3=>.inl (⟨_,_,cR p0.Cache 1 6,(FzAs.same _),aB (m:=5) rfl (brE hg (fun hg h4=>.inl (⟨_,_,cR p0.Queue 1 4,(FzAs.same _),aB (m:=6) rfl (brE hg (fun hg h5=>.inl (⟨_,_,cR p0.Rate 0 99,(FzAs.same _),aB (m:=7) rfl (brE hg (fun hg h6=>.inl (⟨_,_,cR p0.Burst 0 999,(FzAs.same _),aB (m:=8) rfl (brE hg (fun hg h7=>.inl (⟨_,_,c0x p0.Rule,(FzAs.same _),aB (m:=9) rfl (aE hown hg)⟩)) (fun hg h7=>aE hown hg))⟩)) (fun hg h6=>aE hown hg))⟩)) (fun hg h5=>aE hown hg))⟩)) (fun hg h4=>aE hown hg))⟩)) (fun hg h3=>aE hown hg))⟩)) (fun hg h2=>aE hown hg))⟩)) (fun hg h1=>aE hown hg))⟩))))
theorem b6h {c:Conf} (h:dH c=true):1≤c.Stripes∧c.Stripes≤3:=by
 unfold dH at h
 cases hw:aO c.Stripes 1 3 with
 | false=>rw [hw] at h;cases h
 | true=>unfold aO at hw;simpa [Bool.cond_eq_ite] using hw
theorem b5r:∀(d n:Nat) (p:Pol) (k:Int),1≤k→k+d≤5→a5q d p→Pol.dep p < n→dY n p k=true
 | 0,_,_,_,_,_,h,_=>h.elim
 | d+1,0,p,_,_,_,_,hn=>absurd hn (Nat.not_lt_zero _)
 | d+1,n+1,p,k,h1,h2,h,hn=>by
   have ih:∀q∈p.L,dY n q (IntKind.i64.wrap (k+1))=true:=fun q hq=>b5r d n q _ (by rw [wrap_small (by omega) (by omega)];omega) (by rw [wrap_small (by omega) (by omega)];omega) (h.2.2 q hq) (by have:=Pol.dep_lt hq;omega)
   rw [dY.eq_2,decide_eq_false (show ¬k > 4 by omega),cond_false,h.1,Bool.not_true,cond_false]
   have key:∀(l:List Pol) (i:Nat),(∀q∈l,q∈p.L)→aJ (gW (dY n) k) i () l=.fin ():=by
    intro l
    induction l with
    | nil=>intro i _;rfl
    | cons a l ih2 =>
      intro i hm
      have hb:gW (dY n) k i () a=.next ():=by unfold gW;rw [ih a (hm a (List.mem_cons_self ..))];rfl
      unfold aJ
      rw [hb]
      exact ih2 (i+1) (fun q hq=>hm q (List.mem_cons_of_mem _ hq))
   rw [key p.L 0 (fun _ h=>h)]
   rfl
theorem d2z {p:Pol} (h:a5q 3 p):qN p=true:=by
 unfold qN qV uF
 have hc:=b1f 3 (Pol.dep p+1) p (Nat.le_refl _) h (Nat.lt_succ_self _)
 have h8:(2:Int) ^ 3=8:=by decide
 rw [decide_eq_true (show cD (Pol.dep p+1) p≤12 by omega),cond_true]
 exact b5r 3 _ p 1 (by omega) (by omega) h (Nat.lt_succ_self _)
theorem d6b {k:Int} (h:k=1∨k=2∨k=6):iB (Pol.mk k 0 (ByteArray.mk #[]) (ByteArray.mk #[]) [])=true:=by
 rcases h with rfl | rfl | rfl <;> rfl
theorem d7x {v:Int} (h:v∈[(0:Int),1,5,20]):iB (Pol.mk 3 v (ByteArray.mk #[]) (ByteArray.mk #[]) [])=true:=by
 simp only [List.mem_cons,List.not_mem_nil,or_false] at h
 rcases h with rfl | rfl | rfl | rfl <;> rfl
theorem d7w {k t:ByteArray} (h:k∈[(ByteArray.mk #[107]),(ByteArray.mk #[112,97,116,104]),(ByteArray.mk #[99,111,100,101]),(ByteArray.mk #[117,115,101,114])]) (h2:t∈[(ByteArray.mk #[97]),(ByteArray.mk #[98]),(ByteArray.mk #[111,107])]):iB (Pol.mk 4 0 k t [])=true:=by
 simp only [List.mem_cons,List.not_mem_nil,or_false] at h h2
 rcases h with rfl | rfl | rfl | rfl <;> rcases h2 with rfl | rfl | rfl <;> rfl
theorem d7v {k:ByteArray} {v:Int} (h:k∈[(ByteArray.mk #[107]),(ByteArray.mk #[112,97,116,104]),(ByteArray.mk #[99,111,100,101]),(ByteArray.mk #[117,115,101,114])]) (h2:v∈[(0:Int),1,200,500]):iB (Pol.mk 5 v k (ByteArray.mk #[]) [])=true:=by
 simp only [List.mem_cons,List.not_mem_nil,or_false] at h h2
 rcases h with rfl | rfl | rfl | rfl <;> rcases h2 with rfl | rfl | rfl | rfl <;> rfl
theorem d0s {k:Int} {l:List Pol} (h:k=7∨k=8) (h2:1≤l.length∧l.length≤2):iB (Pol.mk k 0 (ByteArray.mk #[]) (ByteArray.mk #[]) l)=true:=by
 have e:aO ((l.length:Nat):Int) 1 4=true:=bD.2 (by omega)
 rcases h with rfl | rfl <;> exact e
theorem d7u {p:Pol}:iB (Pol.mk 9 0 (ByteArray.mk #[]) (ByteArray.mk #[]) [p])=true:=rfl
def a5p (d:Nat) (z:Pol×Cur):Prop:=a5q d z.1
theorem c6g {d:Int} {v:Int×Cur} (hv:CurOk v.2) (hk:v.1∈[(1:Int),2,3,4,5,6,6,7,8,9]):∃s,kF d v=.next s∧CurOk (Cur.mk s.1 s.2.1 s.2.2.1)∧1≤s.2.2.2∧s.2.2.2≤9∧(d=1→s.2.2.2≤6):=by
 have h9:1≤v.1∧v.1≤9:=by
  simp only [List.mem_cons,List.not_mem_nil,or_false] at hk
  omega
 unfold kF
 by_cases h1:d=1
 · subst h1
   rw [show ((1:Int)==1)=true from rfl,cond_true]
   by_cases h2:v.1≥7
   · rw [decide_eq_true h2,cond_true]
     have q:=iT v.2 (n:=6) (by omega) (by omega)
     have e:IntKind.i64.wrap (1+(aG v.2 6).1)=1+(aG v.2 6).1:=wrap_small (by omega) (by omega)
     refine ⟨((aG v.2 6).2.f_b,(aG v.2 6).2.f_i,(aG v.2 6).2.f_h,IntKind.i64.wrap (1+(aG v.2 6).1)),rfl,bI (n:=6) hv,?_,?_,fun _=>?_⟩
     · show 1≤IntKind.i64.wrap (1+(aG v.2 6).1);omega
     · show IntKind.i64.wrap (1+(aG v.2 6).1)≤9;omega
     · show IntKind.i64.wrap (1+(aG v.2 6).1)≤6;omega
   · rw [decide_eq_false h2,cond_false]
     exact ⟨_,rfl,hv,h9.1,h9.2,fun _=>by show v.1≤6;omega⟩
 · rw [show (d==1)=false by simpa using h1,cond_false]
   exact ⟨_,rfl,hv,h9.1,h9.2,fun h=>absurd h h1⟩
theorem c6f {s:List Int×Int×Int×Int}:kE s=.next (decide (s.2.2.2=7∨s.2.2.2=8)):=by
 unfold kE
 by_cases h:s.2.2.2=7
 · rw [show (s.2.2.2==7)=true by simpa using h,cond_true,decide_eq_true (.inl h)]
 · rw [show (s.2.2.2==7)=false by simpa using h,cond_false]
   by_cases h8:s.2.2.2=8
   · rw [show (s.2.2.2==8)=true by simpa using h8,decide_eq_true (.inr h8)]
   · rw [show (s.2.2.2==8)=false by simpa using h8,decide_eq_false (by omega)]
theorem b5q:∀(n d:Nat) (c:Cur),d < n→d≤100→CurOk c→a5p (d+1) (eL n c ((d:Int)+1))
 | 0,d,c,hn,_,_=>absurd hn (Nat.not_lt_zero _)
 | n+1,d,c,hn,hd,hc=>by
   have ih:∀c,CurOk c→1≤d→a5q d (eL n c (IntKind.i64.wrap (((d:Int)+1) - 1))).1:=fun c hc h1=>by
    have q:=b5q n (d - 1) c (by omega) (by omega) hc
    rw [show (((d - 1:Nat):Int)+1)=IntKind.i64.wrap (((d:Int)+1) - 1) by rw [wrap_small (by omega) (by omega)];omega,show d - 1+1=d by omega] at q
    exact q
   rw [eL.eq_2]
   have hk:=sU (c:=c) (l:=[1,2,3,4,5,6,6,7,8,9]) ⟨by decide,by decide⟩
   obtain ⟨s,e,hs,h1,h9,h6⟩:=c6g (d:=(d:Int)+1) (eG (l:=[1,2,3,4,5,6,6,7,8,9]) hc) hk
   show a5p (d+1) (Step.get _ (kF ((d:Int)+1) (bM c [1,2,3,4,5,6,6,7,8,9])))
   rw [e]
   generalize hC:Cur.mk s.1 s.2.1 s.2.2.1=C at hs
   show a5p (d+1) (bif (s.2.2.2==3) then _ else _)
   rw [hC]
   refine aH (P:=a5p (d+1)) (fun k=>?_) (fun k3=>aH (P:=a5p (d+1)) (fun k=>?_) (fun k4=>aH (P:=a5p (d+1)) (fun k=>?_) (fun k5=>?_)))
   · have k:s.2.2.2=3:=by simpa using k
     refine ⟨?_,Nat.zero_le _,fun _ h=>(by cases h)⟩
     show iB (Pol.mk s.2.2.2 (bM C [0,1,5,20]).1 (ByteArray.mk #[]) (ByteArray.mk #[]) [])=true
     rw [k];exact d7x (sU ⟨by decide,by decide⟩)
   · have k:s.2.2.2=4:=by simpa using k
     refine ⟨?_,Nat.zero_le _,fun _ h=>(by cases h)⟩
     show iB (Pol.mk s.2.2.2 0 (fL C).1 (dR (fL C).2 [(ByteArray.mk #[97]),(ByteArray.mk #[98]),(ByteArray.mk #[111,107])]).1 [])=true
     rw [k];exact d7w (a6v ⟨by decide,by decide⟩) (a6v ⟨by decide,by decide⟩)
   · have k:s.2.2.2=5:=by simpa using k
     refine ⟨?_,Nat.zero_le _,fun _ h=>(by cases h)⟩
     show iB (Pol.mk s.2.2.2 (bM (fL C).2 [0,1,200,500]).1 (fL C).1 (ByteArray.mk #[]) [])=true
     rw [k];exact d7v (a6v ⟨by decide,by decide⟩) (sU ⟨by decide,by decide⟩)
   · have k3:s.2.2.2≠3:=by simpa using k3
     have k4:s.2.2.2≠4:=by simpa using k4
     have k5:s.2.2.2≠5:=by simpa using k5
     show a5p (d+1) (Step.get _ (kE s))
     rw [c6f]
     refine aH (P:=a5p (d+1)) (c:=decide (s.2.2.2=7∨s.2.2.2=8)) (fun k=>?_) (fun k=>aH (P:=a5p (d+1)) (fun k9=>?_) (fun k9=>?_))
     · have k:=of_decide_eq_true k
       have hd1:1≤d:=by
        rcases Nat.eq_zero_or_pos d with rfl | h
        · have:=h6 rfl;omega
        · exact h
       have q:=iT C (n:=2) (by omega) (by omega)
       have hb:=bI (n:=2) hs
       have pa:=ih _ hb hd1
       have pb:=ih _ (zT n (d:=IntKind.i64.wrap (((d:Int)+1) - 1)) hb) hd1
       have h01:(aG C 2).1=0∨(aG C 2).1=1:=by omega
       generalize aG C 2=V at *
       obtain ⟨x,c'⟩:=V
       rcases h01 with h0 | h0
       all_goals
        have h0:x=_:=h0
        subst h0
       · exact ⟨d0s (l:=[_]) k ⟨Nat.le_of_ble_eq_true rfl,Nat.le_of_ble_eq_true rfl⟩,Nat.le_of_ble_eq_true rfl,fun q hq=>by obtain rfl:=List.mem_singleton.1 hq;exact pa⟩
       · exact ⟨d0s (l:=[_,_]) k ⟨Nat.le_of_ble_eq_true rfl,Nat.le_of_ble_eq_true rfl⟩,Nat.le_of_ble_eq_true rfl,fun q hq=>by
          rcases List.mem_cons.1 hq with rfl | hq
          · exact pa
          · obtain rfl:=List.mem_singleton.1 hq;exact pb⟩
     · have k9:s.2.2.2=9:=by simpa using k9
       have hd1:1≤d:=by
        rcases Nat.eq_zero_or_pos d with rfl | h
        · have:=h6 rfl;omega
        · exact h
       have pa:=ih C hs hd1
       show a5q (d+1) (Pol.mk s.2.2.2 0 (ByteArray.mk #[]) (ByteArray.mk #[]) [(eL n C (IntKind.i64.wrap (((d:Int)+1) - 1))).1])
       rw [k9]
       exact ⟨d7u,Nat.le_of_ble_eq_true rfl,fun q hq=>by obtain rfl:=List.mem_singleton.1 hq;exact pa⟩
     · have k9:s.2.2.2≠9:=by simpa using k9
       have k:=of_decide_eq_false k
       exact ⟨d6b (by omega),Nat.zero_le _,fun _ h=>(by cases h)⟩
theorem a6x {c:Cur} (h:CurOk c):dH (eZ c).1=true∧Conf.bd 1000 (eZ c).1:=by
 unfold eZ
 simp only [aZ]
 have hP:a5q 3 (rD (bM (aG (aG (aG (bM (bM (aG c 3).2 [1,2,3,9]).2 [40,60,90,190]).2 4).2 3).2 3).2 [0,1,2,4]).2 3).1:=b5q 4 2 _ (by omega) (by omega) (eG (bI (bI (bI (eG (eG (bI h)))))))
 refine ⟨?_,c1p (by omega) _ (c2v 3 _ hP)⟩
 have m1:=sU (c:=(aG c 3).2) (l:=[1,2,3,9]) ⟨by decide,by decide⟩
 have m2:=sU (c:=(bM (aG c 3).2 [1,2,3,9]).2) (l:=[40,60,90,190]) ⟨by decide,by decide⟩
 have b1:=iT c (n:=3) (by omega) (by omega)
 generalize (bM (aG c 3).2 [1,2,3,9]).2=c2 at *
 generalize bM c2 [40,60,90,190]=v3 at *
 have b4:=iT v3.2 (n:=4) (by omega) (by omega)
 generalize aG v3.2 4=v4 at *
 have b5:=iT v4.2 (n:=3) (by omega) (by omega)
 generalize aG v4.2 3=v5 at *
 have b6:=iT v5.2 (n:=3) (by omega) (by omega)
 generalize aG v5.2 3=v6 at *
 have m7:=sU (c:=v6.2) (l:=[0,1,2,4]) ⟨by decide,by decide⟩
 simp only [List.mem_cons,List.not_mem_nil,or_false] at m1 m2 m7
 unfold dH
 dsimp only
 rw [wrap_small (n:=1+(aG c 3).1) (by omega) (by omega),wrap_small (n:=1+v4.1) (by omega) (by omega),wrap_small (n:=1+v5.1) (by omega) (by omega)]
 rw [bD.2 (by omega),cond_true,bD.2 (by omega),cond_true,bD.2 (by omega),cond_true,bD.2 (by omega),cond_true,bD.2 (by omega),cond_true,bD.2 (by omega),cond_true,bD.2 (by omega),cond_true]
 exact d2z hP
theorem c4m {c:Cur} {v:Conf×Cur} (e:v=eZ c) (h:CurOk c):dH v.1=true∧Conf.bd 1000 v.1:=by rw [e];exact a6x h
def dQ (p0:Int) (p1:Int):Bucket :=
 (Bucket.mk p0 p1 p1 0)
theorem a1h (p0:Int) (p1:Int):FnOk prog 113 [.one (.v (.int .i64 p0)),.one (.v (.int .i64 p1))] ⟨.agg (Bucket.cells (dQ p0 p1)),[],[],false⟩:=by
 refine FnOk.intro (E:=env) aK aS func113 rfl (by kernel_rfl) rfl rfl ?_
 have hg:=dQ.eq_1 p0 p1
 have hown:∀g:Bucket,AV.Own (AV.agg (Bucket.cells g)):=fun g=>a4s _
 exact aA (aB (m:=0) rfl (aA (aE hown hg)))
def a0n (i1:Nat) (s1:(List (List Timer))×(List (List Timer))):Step ((List (List Timer))×(List (List Timer))) Wheel :=
 (.next ((s1.1++[([]:List Timer)]),(s1.2++[([]:List Timer)])))
def bT:Wheel :=
 (Fin.get (fun s1=>(Wheel.mk 0 s1.1 s1.2 ([]:List Timer))) (cJ a0n 0 (([]:List (List Timer)),([]:List (List Timer))) ((8:Int)).toNat))
theorem sI:FnOk prog 114 [] ⟨.agg ((Wheel.cells true) bT),[],[],false⟩:=by
 refine FnOk.intro (E:=env) aK aS func114 rfl (by kernel_rfl) rfl rfl ?_
 have hg:=bT.eq_1
 have hown:∀g:Wheel,AV.Own (AV.agg ((Wheel.cells true) g)):=fun g=>vX _
 refine aA (aB (m:=0) rfl (aA (aB (m:=1) rfl (aA (aA (a0v (fun (i:Nat) (s:List (List Timer)×List (List Timer))=>s.1.length≤i∧s.2.length≤i) hg (⟨Nat.le_refl _,Nat.le_refl _⟩) [0,1] (fun x1=>[(2,.one (.v (.int .i64 ((x1.i:Nat):Int))))]) (fun x1=>[.keep 0,.new ⟨4,true,[[.v (.int .i64 0),.n 2 [] 1 0 (x1.s.1).length,.n 3 [] 1 0 (x1.s.2).length,.s true 3 (List.map Timer.cells ([]:List Timer))]],0⟩,.new ⟨1,false,List.map (cSl true 3 Timer.cells) x1.s.1,0⟩,.new ⟨1,false,List.map (cSl true 3 Timer.cells) x1.s.2,0⟩]) [some 0,some 1,none,none] ((by repeat' constructor)) (fun x1=>?_)))))))
 have hI1:=x1.hI
 try dsimp only at hI1
 refine aA (aA (a4j (fun hi1=>have hb1:=(x1.bdy hi1).trans (a0n.eq_1 ..);have hw1:=zQ hi1;aA (aA (.inl (aB (m:=4) rfl (.inl (aB (m:=5) rfl (.inl (aV (Y:=List.map (cSl true 3 Timer.cells) (x1.s.1++[([]:List Timer)])) (by simp [bX,bP,-List.map_take,-List.map_drop,-List.drop_one,aQ,aR,bY (b9q gD)];rfl) (cS (b:=24) (hs:=by have q1:=hI1.1;have q2:=hI1.2;have q3:=hi1;refine ⟨?_,?_⟩;(show List.length _*24≤_);(try simp only [LN]);omega;(try simp only [LN]);omega) ?_))))))))) (fun hi1=>have hg:=bZ hg (x1.fin hi1);aA (aE hown hg))))
 refine aB (m:=6) rfl (.inl (aB (m:=7) rfl (.inl (aB (m:=8) rfl (.inl (aV (Y:=List.map (cSl true 3 Timer.cells) (x1.s.2++[([]:List Timer)])) (by simp [bX,bP,-List.map_take,-List.map_drop,-List.drop_one,aQ,aR,bY (b9q gD)];rfl) (cS (b:=24) (hs:=by have q1:=hI1.1;have q2:=hI1.2;have q3:=hi1;refine ⟨?_,?_⟩;(show List.length _*24≤_);(try simp only [LN]);omega;(try simp only [LN]);omega) ?_)))))))
 exact aB (m:=9) rfl (x1.goE hi1 hb1 (by have q1:=hI1.1;have q2:=hI1.2;refine ⟨?_,?_⟩ <;> (try simp only [LN]) <;> omega) [some 0,some 1,some 6,some 9] ⟨rfl,⟨(bA hw1),⟨rfl,rfl,rfl,rfl⟩,⟨rfl,rfl,rfl,rfl⟩,trivial⟩,(by repeat' first|constructor|(simp [LstSt.init,LstSt.step,LstInv.init,CntSt.init,CntSt.step,CntInv.init,WhlSt.init,WhlSt.step];done)),trivial⟩)
theorem a8q:Wheel.bd 48 bT:=by
 rw [show bT=Wheel.mk 0 (List.replicate 8 []) (List.replicate 8 []) [] from rfl]
 exact ⟨⟨by decide,fun x hx=>by rw [List.eq_of_mem_replicate hx];exact fN⟩,⟨by decide,fun x hx=>by rw [List.eq_of_mem_replicate hx];exact fN⟩,fN⟩
def a0m:Step (Unit) World :=
 (.next ())
def qM (i3:Nat) (s3:(List Task)):Step ((List Task)) World :=
 (.next (s3++[(Task.mk 0 0 (Span.mk 0 0 0 0 false ([]:List Attr)) 0 0 ([]:List Item) 0)]))
def lJ (i2:Nat) (s2:(List Stripe)):Step ((List Stripe)) World :=
 (.next (s2++[(Stripe.mk (-1) ([]:List Trail))]))
def bF (p0:Conf):World :=
 (bif (!(dH p0)) then (World.mk (Conf.mk 0 0 0 0 0 0 0 (Pol.mk 0 0 (ByteArray.mk #[]) (ByteArray.mk #[]) ([]:List Pol))) 0 false ([]:List Stripe) 0 (Bucket.mk 0 0 0 0) ([]:List Verdict) 0 (Wheel.mk 0 ([]:List (List Timer)) ([]:List (List Timer)) ([]:List Timer)) ([]:List Timer) ([]:List Item) ([]:List Item) ([]:List Task) ([]:List Deed) 0) else (Step.get (fun s1=>(Fin.get (fun s2=>(Fin.get (fun s3=>(World.mk (aU p0) 0 false s2 (-1) (dQ p0.Rate p0.Burst) ([]:List Verdict) 0 bT ([]:List Timer) ([]:List Item) ([]:List Item) s3 ([]:List Deed) 1)) (cJ qM 0 ([]:List Task) ((5:Int)).toNat))) (cJ lJ 0 ([]:List Stripe) (p0.Stripes).toNat))) (a0m)))
theorem b2k (p0:Conf) (hs:Conf.bd 1000 p0):FnOk prog 74 [.agg ((Conf.cells false) p0)] ⟨.agg ((World.cells true) (bF p0)),[],[],false⟩:=by
 refine FnOk.intro (E:=env) aK aS func74 rfl (by kernel_rfl) rfl rfl ?_
 have hg:=bF.eq_1 p0
 have hown:∀g:World,AV.Own (AV.agg ((World.cells true) g)):=fun g=>b5s _
 refine aA (aB (m:=0) rfl (aB (m:=1) rfl (aA (aA (.inl (⟨_,_,b7g p0,(FzAs.same _),aB (m:=3) rfl (brE hg (fun hg h1=>aA (aE hown hg)) (fun hg h1=>aA (.inl (⟨_,_,a4a p0 (by exact b6o (by omega) hs),(FzAs.same _),aB (m:=4) rfl (aB (m:=5) rfl (eA hg [1,2] (fun x1=>[(4,.one (.p 11 [] 0 0 0))]) (fun x1=>[.keep 0,.keep 1,.dead,.dead,.keep 4,.dead,.dead,.dead,.new ⟨1,false,List.map (cSl true 3 Timer.cells) bT.Near,0⟩,.new ⟨1,false,List.map (cSl true 3 Timer.cells) bT.Far,0⟩,.new ⟨3,false,List.map Timer.cells bT.Rest,0⟩,.new ⟨32,true,[[.v (.int .i64 (aU p0).Stripes),.v (.int .i64 (aU p0).Wait),.v (.int .i64 (aU p0).Budget),.v (.int .i64 (aU p0).Cache),.v (.int .i64 (aU p0).Queue),.v (.int .i64 (aU p0).Rate),.v (.int .i64 (aU p0).Burst),.v (.int .i64 (aU p0).Rule.Kind),.v (.int .i64 (aU p0).Rule.N),.v (.string (aU p0).Rule.Key),.v (.string (aU p0).Rule.Text),.n 4 [] 1 0 ((aU p0).Rule.L).length,.v (.int .i64 0),.v (.bool false),.s true 2 (List.map (Stripe.cells true) ([]:List Stripe)),.v (.int .i64 (-1)),.v (.int .i64 (dQ p0.Rate p0.Burst).Rate),.v (.int .i64 (dQ p0.Rate p0.Burst).Burst),.v (.int .i64 (dQ p0.Rate p0.Burst).Tokens),.v (.int .i64 (dQ p0.Rate p0.Burst).At),.s true 3 (List.map Verdict.cells ([]:List Verdict)),.v (.int .i64 0),.v (.int .i64 bT.Now),.n 8 [] 1 0 (bT.Near).length,.n 9 [] 1 0 (bT.Far).length,.n 10 [] 1 0 (bT.Rest).length,.s true 3 (List.map Timer.cells ([]:List Timer)),.s true 7 (List.map (Item.cells true) ([]:List Item)),.s true 7 (List.map (Item.cells true) ([]:List Item)),.s true 12 (List.map (Task.cells true) ([]:List Task)),.s true 20 (List.map (Deed.cells true) ([]:List Deed)),.v (.int .i64 1)]],0⟩]) (fun hb1=>have hb1:=hb1.trans (a0m.eq_1 ..);.inr (.inl ⟨(.seg 10 10 (.q 0 (.q 1 (.q 2 (.q 3 (.q 4 (.b 5 (.b 6 (.b 7 (.o 8 (.w 9 .leaf)) 8 (.o 7 (.w 9 .leaf))) 8 (.o 6 (.o 7 (.w 9 .leaf)))) 8 (.o 5 (.o 6 (.o 7 (.w 9 .leaf)))))))))) .done),by kernel_rfl,And.intro (⟨_,_,a1h p0.Rate p0.Burst,(FzAs.same _),aB (m:=7) rfl (And.intro (⟨_,_,sI,(FzAs.same _),aB (m:=8) rfl (And.intro (aB (m:=11) rfl (.inl ⟨⟨_,hb1⟩,[some 0,some 1,none,none,some 4,none,none,none,some 8,some 9,some 10,some 11],(by repeat' first|constructor|(simp;done))⟩)) (aB (m:=11) rfl (.inl ⟨⟨_,hb1⟩,[some 0,some 1,none,none,some 4,none,none,none,some 8,some 9,some 10,some 11],(by repeat' first|constructor|(simp;done))⟩)))⟩) (aB (m:=7) rfl (⟨_,_,sI,(FzAs.same _),aB (m:=9) rfl (.inl ⟨⟨_,hb1⟩,[some 0,some 1,none,none,some 4,none,none,none,some 9,some 10,some 11,some 7],(by repeat' first|constructor|(simp;done))⟩)⟩)))⟩) (aB (m:=6) rfl (⟨_,_,a1h p0.Rate p0.Burst,(FzAs.same _),aB (m:=8) rfl (⟨_,_,sI,(FzAs.same _),aB (m:=9) rfl (.inl ⟨⟨_,hb1⟩,[some 0,some 1,none,none,some 4,none,none,none,some 9,some 10,some 11,some 6],(by repeat' first|constructor|(simp;done))⟩)⟩)⟩))⟩)) (fun x1 hg=>have hst:=b6h (nf h1);aA (aA (a0v (fun (i:Nat) (s:List Stripe)=>s.length≤i) hg (Nat.le_refl _) [1,2,4] (fun x2=>[(5,.one (.v (.int .i64 ((x2.i:Nat):Int))))]) (fun x2=>[.keep 0,.keep 1,.dead,.dead,.keep 4,.dead,.dead,.dead,.keep 8,.keep 9,.keep 10,.new ⟨32,true,[[.v (.int .i64 (aU p0).Stripes),.v (.int .i64 (aU p0).Wait),.v (.int .i64 (aU p0).Budget),.v (.int .i64 (aU p0).Cache),.v (.int .i64 (aU p0).Queue),.v (.int .i64 (aU p0).Rate),.v (.int .i64 (aU p0).Burst),.v (.int .i64 (aU p0).Rule.Kind),.v (.int .i64 (aU p0).Rule.N),.v (.string (aU p0).Rule.Key),.v (.string (aU p0).Rule.Text),.n 4 [] 1 0 ((aU p0).Rule.L).length,.v (.int .i64 0),.v (.bool false),.n 12 [] 1 0 (x2.s).length,.v (.int .i64 (-1)),.v (.int .i64 (dQ p0.Rate p0.Burst).Rate),.v (.int .i64 (dQ p0.Rate p0.Burst).Burst),.v (.int .i64 (dQ p0.Rate p0.Burst).Tokens),.v (.int .i64 (dQ p0.Rate p0.Burst).At),.s true 3 (List.map Verdict.cells ([]:List Verdict)),.v (.int .i64 0),.v (.int .i64 bT.Now),.n 8 [] 1 0 (bT.Near).length,.n 9 [] 1 0 (bT.Far).length,.n 10 [] 1 0 (bT.Rest).length,.s true 3 (List.map Timer.cells ([]:List Timer)),.s true 7 (List.map (Item.cells true) ([]:List Item)),.s true 7 (List.map (Item.cells true) ([]:List Item)),.s true 12 (List.map (Task.cells true) ([]:List Task)),.s true 20 (List.map (Deed.cells true) ([]:List Deed)),.v (.int .i64 1)]],0⟩,.new ⟨2,false,List.map (Stripe.cells true) x2.s,0⟩]) [some 0,some 1,none,none,some 4,none,none,none,some 8,some 9,some 10,some 11,none] ((by repeat' constructor)) (fun x2=>?_))))))⟩))))⟩))))))
 have hI2:=x2.hI
 try dsimp only at hI2
 refine aA (aA (a4j (fun hi2=>?_) (fun hi2=>?_)))
 · refine have hb2:=(x2.bdy hi2).trans (lJ.eq_1 ..);have hw2:=zQ hi2;aA (.inl (aB (m:=13) rfl (.inl (aV (Y:=List.map (Stripe.cells true) (x2.s++[(Stripe.mk (-1) ([]:List Trail))])) (by simp [bX,bP,-List.map_take,-List.map_drop,-List.drop_one,aQ,aR,a2d,bY a2d,iC b5l];rfl) (cS (b:=32) (hs:=by (try have q1:=hI2);(try have q2:=hI3);(try have q3:=hi2);(try have q4:=hi3);refine ⟨?_,?_⟩;(show List.length _*32≤_);(try simp only [LN]);omega;(try simp only [LN]);omega) ?_)))))
   exact aB (m:=14) rfl (x2.goE hi2 hb2 (by have q1:=hI2;(try simp only [LN]);omega) [some 0,some 1,none,none,some 4,none,none,none,some 8,some 9,some 10,some 11,some 14] ⟨rfl,⟨(bA hw2),⟨rfl,rfl,rfl,rfl⟩,⟨rfl,rfl,rfl,rfl⟩,⟨rfl,rfl,rfl,rfl⟩,trivial⟩,(by repeat' first|constructor|(simp [LstSt.init,LstSt.step,LstInv.init,CntSt.init,CntSt.step,CntInv.init,WhlSt.init,WhlSt.step];done)),trivial⟩)
 refine have hg:=bZ hg (x2.fin hi2);aA (aA (a0v (fun (i:Nat) (s:List Task)=>s.length≤i) hg (Nat.le_refl _) [2,4] (fun x3=>[(6,.one (.v (.int .i64 ((x3.i:Nat):Int))))]) (fun x3=>[.dead,.keep 1,.dead,.dead,.keep 4,.dead,.dead,.dead,.keep 8,.keep 9,.keep 10,.new ⟨32,true,[[.v (.int .i64 (aU p0).Stripes),.v (.int .i64 (aU p0).Wait),.v (.int .i64 (aU p0).Budget),.v (.int .i64 (aU p0).Cache),.v (.int .i64 (aU p0).Queue),.v (.int .i64 (aU p0).Rate),.v (.int .i64 (aU p0).Burst),.v (.int .i64 (aU p0).Rule.Kind),.v (.int .i64 (aU p0).Rule.N),.v (.string (aU p0).Rule.Key),.v (.string (aU p0).Rule.Text),.n 4 [] 1 0 ((aU p0).Rule.L).length,.v (.int .i64 0),.v (.bool false),.n 12 [] 1 0 (x2.s).length,.v (.int .i64 (-1)),.v (.int .i64 (dQ p0.Rate p0.Burst).Rate),.v (.int .i64 (dQ p0.Rate p0.Burst).Burst),.v (.int .i64 (dQ p0.Rate p0.Burst).Tokens),.v (.int .i64 (dQ p0.Rate p0.Burst).At),.s true 3 (List.map Verdict.cells ([]:List Verdict)),.v (.int .i64 0),.v (.int .i64 bT.Now),.n 8 [] 1 0 (bT.Near).length,.n 9 [] 1 0 (bT.Far).length,.n 10 [] 1 0 (bT.Rest).length,.s true 3 (List.map Timer.cells ([]:List Timer)),.s true 7 (List.map (Item.cells true) ([]:List Item)),.s true 7 (List.map (Item.cells true) ([]:List Item)),.n 13 [] 1 0 (x3.s).length,.s true 20 (List.map (Deed.cells true) ([]:List Deed)),.v (.int .i64 1)]],0⟩,.keep 12,.new ⟨12,false,List.map (Task.cells true) x3.s,0⟩]) [none,some 1,none,none,some 4,none,none,none,some 8,some 9,some 10,some 11,some 12,none] ((by repeat' constructor)) (fun x3=>?_)))
 have hI3:=x3.hI
 try dsimp only at hI3
 refine aA (aA (a4j (fun hi3=>have hb3:=(x3.bdy hi3).trans (qM.eq_1 ..);have hw3:=zQ hi3;aA (.inl (aB (m:=14) rfl (.inl (aV (Y:=List.map (Task.cells true) (x3.s++[(Task.mk 0 0 (Span.mk 0 0 0 0 false ([]:List Attr)) 0 0 ([]:List Item) 0)])) (by simp [bX,bP,-List.map_take,-List.map_drop,-List.drop_one,aQ,aR,a8h,bY a8h,iC c2o];rfl) (cS (b:=128) (hs:=by (try have q1:=hI2);(try have q2:=hI3);(try have q3:=hi2);(try have q4:=hi3);refine ⟨?_,?_⟩;(show List.length _*128≤_);(try simp only [LN]);omega;(try simp only [LN]);omega) ?_)))))) (fun hi3=>have hg:=bZ hg (x3.fin hi3);aA (aE hown hg))))
 exact aB (m:=15) rfl (x3.goE hi3 hb3 (by have q1:=hI3;(try simp only [LN]);omega) [none,some 1,none,none,some 4,none,none,none,some 8,some 9,some 10,some 11,some 12,some 15] ⟨rfl,⟨(bA hw3),⟨rfl,rfl,rfl,rfl⟩,⟨rfl,rfl,rfl,rfl⟩,trivial⟩,(by repeat' first|constructor|(simp [LstSt.init,LstSt.step,LstInv.init,CntSt.init,CntSt.step,CntInv.init,WhlSt.init,WhlSt.step];done)),trivial⟩)
theorem a2p {c:Conf} (h:dH c=true) (hb:Conf.bd 1000 c):WI 1000 (bF c):=by
 have hst:=b6h h
 unfold bF
 rw [h,Bool.not_true,cond_false]
 obtain ⟨v,e,hl,hv⟩:=sT (b:=lJ) (P:=fun i (s:List Stripe)=>s.length=i∧∀x∈s,Stripe.bd 1000 x) (fun i s hs=>⟨_,rfl,by rw [jP,hs.1],fun x hx=>by
  rcases List.mem_append.1 hx with hx | hx
  · exact hs.2 x hx
  · obtain rfl:=List.mem_singleton.1 hx;exact fN⟩) c.Stripes.toNat 0 [] ⟨rfl,fun _ h=>(by cases h)⟩
 have e3:cJ qM 0 ([]:List Task) ((5:Int)).toNat=.fin (List.replicate 5 (Task.mk 0 0 (Span.mk 0 0 0 0 false ([]:List Attr)) 0 0 ([]:List Item) 0)):=rfl
 show WI 1000 (Fin.get _ (cJ lJ 0 ([]:List Stripe) c.Stripes.toNat))
 rw [e,Fin.get_fin,e3,Fin.get_fin,wM]
 have hz:v.length=c.Stripes.toNat:=by omega
 exact ⟨rfl,⟨by show 1≤v.length;omega,by show v.length≤16;omega⟩,fun t ht ho=>by rw [List.eq_of_mem_replicate ht] at ho;exact absurd rfl ho,fun t ht ho=>by rw [List.eq_of_mem_replicate ht] at ho;exact absurd ho (by show ¬(0:Int)=2;decide),hb,⟨by show v.length≤1000;omega,hv⟩,fN,a8q,fN,fN,fN,⟨by show (5:Nat)≤1000;omega,fun t ht=>by rw [List.eq_of_mem_replicate ht];exact ⟨fN,fN⟩⟩,fN⟩
def bC (p0:Int) (p1:Int):(Int×Int) :=
 (bif ((IntKind.i64.wrap (Int.tdiv p1 8))==(IntKind.i64.wrap (Int.tdiv p0 8))) then (1,(Int.tmod p1 8)) else (bif (decide ((IntKind.i64.wrap ((IntKind.i64.wrap (Int.tdiv p1 8)) - (IntKind.i64.wrap (Int.tdiv p0 8)))) < 8)) then (2,(Int.tmod (IntKind.i64.wrap (Int.tdiv p1 8)) 8)) else (3,0)))
theorem a3y (p0:Int) (p1:Int):FnOk prog 207 [.one (.v (.int .i64 p0)),.one (.v (.int .i64 p1))] ⟨.tup [.one (.v (.int .i64 (bC p0 p1).1)),.one (.v (.int .i64 (bC p0 p1).2))],[],[],false⟩:=by
 refine FnOk.intro (E:=env) aK aS func207 rfl (by kernel_rfl) rfl rfl ?_
 have hg:=bC.eq_1 p0 p1
 have hown:∀g:(Int×Int),AV.Own (AV.tup [.one (.v (.int .i64 g.1)),.one (.v (.int .i64 g.2))]):=fun g=>⟨.v _,.v _,trivial⟩
 exact aA (aA (aA (bK (by (omega)) (bK (by (omega)) (brQ hg (fun hg h1=>aA (bK (by (omega)) (aE hown hg))) (fun hg h1=>aA (aA (bK (by (omega)) (bK (by (omega)) (brD hg (fun hg h2=>aA (bK (by (omega)) (bK (by (omega)) (aE hown hg)))) (fun hg h2=>aA (aE hown hg))))))))))))
theorem iX {now at':Int} (h:0≤at') (h2:at'≤9223372036854775807):0≤(bC now at').2∧(bC now at').2 < 8:=by
 have tm:∀x:Int,0≤x→0≤Int.tmod x 8∧Int.tmod x 8 < 8:=fun x hx=>⟨Int.tmod_nonneg 8 hx,Int.tmod_lt_of_pos x (by omega)⟩
 have td:0≤Int.tdiv at' 8:=Int.tdiv_nonneg h (by omega)
 have te:Int.tdiv at' 8≤9223372036854775807:=by rw [Int.tdiv_eq_ediv_of_nonneg h];omega
 have tw:0≤IntKind.i64.wrap (Int.tdiv at' 8):=by rw [wrap_small (by omega) (by omega)];exact td
 unfold bC
 exact aH (P:=fun z:Int×Int=>0≤z.2∧z.2 < 8) (fun _=>tm _ h) (fun _=>aH (P:=fun z:Int×Int=>0≤z.2∧z.2 < 8) (fun _=>tm _ tw) (fun _=>⟨Int.le_refl 0,by show (0:Int) < 8;omega⟩))
def lI (p0:Wheel) (p2:Int) (p3:Int) (i1:Nat) (s1:Unit) (a1:Timer):Step (Unit) Bool :=
 (bif (decide (a1.Id < 1)) then (.done false) else (bif (!(aO a1.Trace 1 999)) then (.done false) else (bif (!(aO a1.At (IntKind.i64.wrap (p0.Now+1)) 2147483647)) then (.done false) else (bif ((bC p0.Now a1.At).1 != p2) then (.done false) else (bif ((bC p0.Now a1.At).2 != p3) then (.done false) else (.next ()))))))
def cW (p0:Wheel) (p1:(List Timer)) (p2:Int) (p3:Int):Bool :=
 (Fin.get (fun s1=>true) (aJ (lI p0 p2 p3) 0 () p1))
theorem zK (p0:Wheel) (p1:(List Timer)) (p2:Int) (p3:Int):FnOk prog 206 [.agg ((Wheel.cells false) p0),.one (.s false 3 (List.map Timer.cells p1)),.one (.v (.int .i64 p2)),.one (.v (.int .i64 p3))] ⟨.one (.v (.bool (cW p0 p1 p2 p3))),[],[],false⟩:=by
 refine FnOk.intro (E:=env) aK aS func206 rfl (by kernel_rfl) rfl rfl ?_
 have hg:=cW.eq_1 p0 p1 p2 p3
 have hown:=dP
 exact aA (aB (m:=0) rfl (aA (aA (dW hg [1,2,3,4] (fun x1=>[(9,.one (.v (.int .i64 ((x1.i:Nat):Int))))]) (fun x1=>[.keep 0]) [some 0] ((by repeat' constructor)) (fun x1=>aA (aA (bJ fun hN1=>cT (fun hi1=>have hb1:=(x1.bdy hi1).trans (lI.eq_1 ..);have hw1:=aT hi1 (by assumption);aA (aA (cC hi1 (aB (m:=1) rfl (aA (aA (nC hb1 (fun hb1 h2=>.inl (⟨_,_,cR (p1[x1.i]'hi1).Trace 1 999,(FzAs.same _),aB (m:=3) rfl (brF hb1 (fun hb1 h3=>.inl (⟨_,_,cR (p1[x1.i]'hi1).At (IntKind.i64.wrap (p0.Now+1)) 2147483647,(FzAs.same _),aB (m:=4) rfl (brE hb1 (fun hb1 h4=>aA (have hg:=cQ hg (x1.outD hi1 hb1);aE hown hg)) (fun hb1 h4=>aA (.inl (⟨_,_,a3y p0.Now (p1[x1.i]'hi1).At,(FzAs.same _),aB (m:=5) rfl (aA (yA hb1 (fun hb1 h5=>brW hb1 (fun hb1 h6=>aA (have hg:=cQ hg (x1.outD hi1 hb1);aE hown hg)) (fun hb1 h6=>x1.goE hi1 hb1 [some 0] ⟨rfl,⟨(bA hw1),rfl,rfl,rfl,⟨rfl,rfl,rfl,rfl⟩,trivial⟩,(by repeat' constructor),trivial⟩)) (fun hb1 h5=>aA (have hg:=cQ hg (x1.outD hi1 hb1);aE hown hg))))⟩))))⟩)) (fun hb1 h3=>aA (have hg:=cQ hg (x1.outD hi1 hb1);aE hown hg)))⟩)) (fun hb1 h2=>aA (have hg:=cQ hg (x1.outD hi1 hb1);aE hown hg))))))))) (fun hi1=>have hg:=bZ hg (x1.fin hi1);aA (aE hown hg)))))))))
structure SlotT (now p k:Int) (t:Timer):Prop where
 id:1≤t.Id
 tr:1≤t.Trace∧t.Trace≤999
 at':IntKind.i64.wrap (now+1)≤t.At∧t.At≤2147483647
 p1:(bC now t.At).1=p
 p2:(bC now t.At).2=k
theorem a9g {w:Wheel} {l:List Timer} {p k:Int} (h:cW w l p k=true):∀t∈l,SlotT w.Now p k t:=by
 unfold cW at h
 refine (zV (P:=SlotT w.Now p k) (fun i s a r=>?_) (fun i s a v=>?_) (fun i s a v=>?_) l 0 () h).1 <;> unfold lI
 · refine dO (fun _ e=>by cases e;rfl) (fun _=>dO (fun _ e=>by cases e;rfl) (fun _=>dO (fun _ e=>by cases e;rfl) (fun _=>dO (fun _ e=>by cases e;rfl) (fun _=>dO (fun _ e=>by cases e;rfl) (fun _ e=>by cases e)))))
 · refine dO (fun _ e=>by cases e) (fun _=>dO (fun _ e=>by cases e) (fun _=>dO (fun _ e=>by cases e) (fun _=>dO (fun _ e=>by cases e) (fun _=>dO (fun _ e=>by cases e) (fun _ e=>by cases e)))))
 · refine dO (fun _ e=>by cases e) (fun h1=>dO (fun _ e=>by cases e) (fun h2=>dO (fun _ e=>by cases e) (fun h3=>dO (fun _ e=>by cases e) (fun h4=>dO (fun _ e=>by cases e) (fun h5 _=>?_)))))
   rw [decide_eq_false_iff_not] at h1
   exact ⟨by omega,bD.1 (by simpa using h2),bD.1 (by simpa using h3),by simpa using h4,by simpa using h5⟩
def xE (i2:Nat) (s2:(List Timer)) (a2:(List Timer)):Step ((List Timer)) (List Timer) :=
 (.next (s2++a2))
def xF (i1:Nat) (s1:(List Timer)) (a1:(List Timer)):Step ((List Timer)) (List Timer) :=
 (.next (s1++a1))
def aI (p0:Wheel):(List Timer) :=
 (Fin.get (fun s1=>(Fin.get (fun s2=>(s2++p0.Rest)) (aJ xE 0 s1 p0.Far))) (aJ xF 0 ([]:List Timer) p0.Near))
theorem vE (p0:Wheel) (hs:Wheel.bd 1024 p0):FnOk prog 131 [.agg ((Wheel.cells false) p0)] ⟨.one (.s true 3 (List.map Timer.cells (aI p0))),[],[],false⟩:=by
 refine FnOk.intro (E:=env) aK aS func131 rfl (by kernel_rfl) rfl rfl ?_
 have hg:=aI.eq_1 p0
 have hown:∀g:(List Timer),AV.Own (AV.one (.s true 3 (List.map Timer.cells g))):=fun g=>fF kJ _
 refine aA (aB (m:=0) rfl (aA (.inl (aB (m:=1) rfl (aA (aA (gM (fun (i:Nat) (s:List Timer)=>s.length≤i*1024) hg (Nat.zero_le _) [1] (fun x1=>[(3,.one (.n 1 [] 1 0 (x1.s).length)),(4,.one (.v (.int .i64 ((x1.i:Nat):Int))))]) (fun x1=>[.keep 0,.new ⟨3,false,List.map Timer.cells x1.s,0⟩]) [some 0,some 1] ((by repeat' constructor)) (fun x1=>?_))))))))
 have hI1:=x1.hI
 try dsimp only at hI1
 refine aA (aA (bJ fun hN1=>cT (fun hi1=>?_) (fun hi1=>?_)))
 · refine have hb1:=(x1.bdy hi1).trans (xF.eq_1 ..);have hw1:=aT hi1 (by assumption);aA (cC hi1 (.inl (aV (Y:=List.map Timer.cells (x1.s++(p0.Near[x1.i]'hi1))) (by simp [bX,bP,-List.map_take,-List.map_drop,-List.drop_one,aQ,aR,bR,bS,bY bR,fH bS];done) (cS (b:=24) (hs:=by have k1:=hs.1.1;have k2:=hs.2.1.1;have k3:=hs.2.2.1;(try have q1:=x1.h);(try have q1:=hI1);(try have q2:=hi1);(try have q3:=(hs.1.get hi1).1);(try have q4:=hI2);(try have q5:=hi2);(try have q6:=(hs.2.1.get hi2).1);(try have q7:=x2.h);refine ⟨?_,?_⟩;(show List.length _*24≤_);(try simp only [LN]);omega;(try simp only [LN]);omega) ?_))))
   exact aB (m:=2) rfl (x1.goE hi1 hb1 (by have q1:=hI1;have q2:=(hs.1.get hi1).1;(try simp only [LN]);omega) [some 0,some 2] ⟨rfl,⟨⟨rfl,rfl,rfl,rfl,by ((simp [LstSt.init,LstSt.step,LstInv.init,CntSt.init,CntSt.step,CntInv.init,WhlSt.init,WhlSt.step];done))⟩,(bA hw1),⟨rfl,rfl,rfl,rfl⟩,trivial⟩,(by repeat' constructor),trivial⟩)
 refine have hg:=bZ hg (x1.fin hi1);aA (aA (gM (fun (i:Nat) (s:List Timer)=>s.length≤(1024+i)*1024) hg (by have q1:=x1.h;have q2:=hs.1.1;omega) [1] (fun x2=>[(3,.one (.n 1 [] 1 0 (x2.s).length)),(5,.one (.v (.int .i64 ((x2.i:Nat):Int))))]) (fun x2=>[.keep 0,.new ⟨3,false,List.map Timer.cells x2.s,0⟩]) [some 0,some 1] ((by repeat' constructor)) (fun x2=>?_)))
 have hI2:=x2.hI
 try dsimp only at hI2
 refine aA (aA (bJ fun hN2=>cT (fun hi2=>?_) (fun hi2=>?_)))
 · refine have hb2:=(x2.bdy hi2).trans (xE.eq_1 ..);have hw2:=aT hi2 (by assumption);aA (cC hi2 (.inl (aV (Y:=List.map Timer.cells (x2.s++(p0.Far[x2.i]'hi2))) (by simp [bX,bP,-List.map_take,-List.map_drop,-List.drop_one,aQ,aR,bR,bS,bY bR,fH bS];done) (cS (b:=24) (hs:=by have k1:=hs.1.1;have k2:=hs.2.1.1;have k3:=hs.2.2.1;(try have q1:=x1.h);(try have q1:=hI1);(try have q2:=hi1);(try have q3:=(hs.1.get hi1).1);(try have q4:=hI2);(try have q5:=hi2);(try have q6:=(hs.2.1.get hi2).1);(try have q7:=x2.h);refine ⟨?_,?_⟩;(show List.length _*24≤_);(try simp only [LN]);omega;(try simp only [LN]);omega) ?_))))
   exact aB (m:=2) rfl (x2.goE hi2 hb2 (by have q1:=hI2;have q2:=(hs.2.1.get hi2).1;(try simp only [LN]);omega) [some 0,some 2] ⟨rfl,⟨⟨rfl,rfl,rfl,rfl,by ((simp [LstSt.init,LstSt.step,LstInv.init,CntSt.init,CntSt.step,CntInv.init,WhlSt.init,WhlSt.step];done))⟩,(bA hw2),⟨rfl,rfl,rfl,rfl⟩,trivial⟩,(by repeat' constructor),trivial⟩)
 refine have hg:=bZ hg (x2.fin hi2);aA (.inl (aV (Y:=List.map Timer.cells (x2.s++p0.Rest)) (by simp [bX,bP,-List.map_take,-List.map_drop,-List.drop_one,aQ,aR,bR,bS,bY bR,fH bS];done) (cS (b:=24) (hs:=by have k1:=hs.1.1;have k2:=hs.2.1.1;have k3:=hs.2.2.1;(try have q1:=x1.h);(try have q1:=hI1);(try have q2:=hi1);(try have q3:=(hs.1.get hi1).1);(try have q4:=hI2);(try have q5:=hi2);(try have q6:=(hs.2.1.get hi2).1);(try have q7:=x2.h);refine ⟨?_,?_⟩;(show List.length _*24≤_);(try simp only [LN]);omega;(try simp only [LN]);omega) ?_)))
 exact aB (m:=2) rfl (aE hown hg)
theorem eB (w:Wheel):aI w=w.Near.flatMap id++w.Far.flatMap id++w.Rest:=by
 unfold aI
 rw [nD (b:=xF) id (fun _ _ _=>rfl),Fin.get_fin,nD (b:=xE) id (fun _ _ _=>rfl),Fin.get_fin]
 simp
theorem a9w {n:Nat}:∀(l:List (List Timer)),(∀x∈l,x.length≤n)→(l.flatMap id).length≤l.length*n
 | [],_=>Nat.zero_le _
 | a :: l,h=>by
   rw [List.flatMap_cons,List.length_append,List.length_cons,Nat.succ_mul]
   have:=a9w l (fun x hx=>h x (List.mem_cons_of_mem _ hx))
   have:=h a (List.mem_cons_self ..)
   show a.length+_≤_
   omega
theorem tJ {w:Wheel} (h:Wheel.bd 48 w):(aI w).length≤4900:=by
 rw [eB,List.length_append,List.length_append]
 have h1:=a9w (n:=48) w.Near (fun x hx=>(h.1.2 x hx).1)
 have h2:=a9w (n:=48) w.Far (fun x hx=>(h.2.1.2 x hx).1)
 have h3:=h.1.1
 have h4:=h.2.1.1
 have h5:=h.2.2.1
 omega
def dE (p0:Wheel) (a2:Timer) (i3:Nat) (s3:Unit):Step (Unit) (Step (Unit) Bool) :=
 (bif (((aI p0)[i3]?.getD default).Id==a2.Id) then (.done (.done false)) else (.next ()))
def iO (p0:Wheel) (i2:Nat) (s2:Unit) (a2:Timer):Step (Unit) Bool :=
 (Fin.get (fun s3=>(.next ())) (cJ (dE p0 a2) 0 () i2))
def gL (p0:Wheel) (i1:Nat) (s1:Unit):Step (Unit) Bool :=
 (bif (!(cW p0 (p0.Near[i1]?.getD default) 1 ((i1:Nat):Int))) then (.done false) else (bif (!(cW p0 (p0.Far[i1]?.getD default) 2 ((i1:Nat):Int))) then (.done false) else (.next ())))
def cM (p0:Wheel):Bool :=
 (bif ((((p0.Near).length:Nat):Int) != 8) then false else (bif ((((p0.Far).length:Nat):Int) != 8) then false else (bif (!(aO p0.Now 0 2147483647)) then false else (bif (!(cW p0 p0.Rest 3 0)) then false else (Fin.get (fun s1=>(Fin.get (fun s2=>(decide (((((aI p0)).length:Nat):Int)≤16))) (aJ (iO p0) 0 () (aI p0)))) (cJ (gL p0) 0 () ((8:Int)).toNat))))))
end Go.Proofs.Tryz.Ev
