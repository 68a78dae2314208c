import Derived.Test.YtdjlkhhgaaddpaaGreatLToldWalkB
set_option linter.unusedSectionVars false
namespace Go.Proofs.Tryz.Ev
open Go Go.Ev Go.Proofs
set_option maxHeartbeats 4000000
set_option maxRecDepth 100000
set_option linter.unusedSimpArgs false
set_option linter.unusedVariables false
set_option linter.unusedSectionVars false
theorem b7b (p0:World) (p1:Int) (u2:Value) (u3:Value) (u4:Value) (hu2:fit u2=true) (hu3:fit u3=true) (hu4:fit u4=true) (hw:WI 830000 p0) (hi:0≤p1∧p1 < 5) (h2p:(p0.Tasks[p1.toNat]?.getD default).Op=2):FnOk prog 184 [.tup [.one (.b (World.cv none none (some u2) (some u3) (some u4) none none p0))],.one (.v (.int .i64 p1))] ⟨.tup [],[.one (.b (World.cv none none (some u2) (some u3) (some u4) none none (fI p0 p1)))],[],false⟩:=by
 refine FnOk.introV (E:=env) aK aS func184 rfl (by kernel_rfl) rfl ?_
 have hg:=fI.eq_1 p0 p1
 have hown:(false=false→∀g:World,AV.Own (AV.tup []))∧(fun g:World=>World.cv none none (some u2) (some u3) (some u4) none none g)=_∧(fun g:World=>AV.tup [])=_:=⟨fun _ g=>trivial,rfl,rfl⟩
 refine aA (bK (by have ho:(p0.Tasks[p1.toNat]?.getD default).Op≠0:=(by rw [h2p];decide);have qt:=hw.tl;have qd:=hw.at p1.toNat ho;(try have qj:=hJ.1.at p1.toNat (by rw [hJ.2.1];exact ho));(try rw [hJ.2.1] at qj);(simp only [List.length_map,List.length_set];omega)) (cZ (i:=(p1).toNat) (l:=p0.Tasks) (by exact Nat.zero_add _) (fun hq1=>aB (m:=6) rfl (aA (.inl ⟨by kernel_rfl,bK (by have ho:(p0.Tasks[p1.toNat]?.getD default).Op≠0:=(by rw [h2p];decide);have qt:=hw.tl;have qd:=hw.at p1.toNat ho;(try have qj:=hJ.1.at p1.toNat (by rw [hJ.2.1];exact ho));(try rw [hJ.2.1] at qj);(simp only [List.length_map,List.length_set];omega)) (eA hg [0,1,4,5] (fun x1=>[(6,.one (.p 8 [] 0 0 0)),(7,.one (.v (.bool (aC p0.St (p0.Tasks[(p1).toNat]?.getD default).Trace).2)))]) (fun x1=>[.keep 0,.dead,.keep 2,.keep 3,.keep 4,.keep 5,.keep 6,.dead,.new ⟨4,true,[[.v (.int .i64 (aC p0.St (p0.Tasks[(p1).toNat]?.getD default).Trace).1.Id),.v (.int .i64 (aC p0.St (p0.Tasks[(p1).toNat]?.getD default).Trace).1.Stamp),.v (.int .i64 (aC p0.St (p0.Tasks[(p1).toNat]?.getD default).Trace).1.First),.s false 6 (List.map (Span.cells false) (aC p0.St (p0.Tasks[(p1).toNat]?.getD default).Trace).1.Spans)]],0⟩]) (fun hb1=>have hb1:=hb1.trans (a3g.eq_1 ..);.inr (.inl ⟨(.seg 13 13 (.q 0 (.q 1 (.q 2 (.q 3 (.q 4 (.q 5 (.b 6 (.s 7 (.s 8 (.s 9 (.o 10 (.w 11 (.o 12 .leaf)))))) 10 (.o 6 (.o 7 (.s 8 (.s 9 (.w 11 (.o 12 .leaf))))))))))))) .done),by kernel_rfl,And.intro (⟨_,_,(FnOk.conv (.tup (.cons (FzR.frzA (kM _)) (.cons (.same _) (.same _)))) (lR p0.St (p0.Tasks[(p1).toNat]?.getD default).Trace (by exact ⟨bdS.mono hw.s (by omega) (jS (by omega)),hw.sl.2⟩))),(FzAs.same _),aB (m:=8) rfl (aB (m:=8) rfl (.inl ⟨⟨_,hb1⟩,[some 0,none,some 2,some 3,some 4,some 5,some 6,none,some 8],(by repeat' constructor)⟩))⟩) (aB (m:=7) rfl (⟨_,_,(FnOk.conv (.tup (.cons (FzR.frzA (kM _)) (.cons (.same _) (.same _)))) (lR p0.St (p0.Tasks[(p1).toNat]?.getD default).Trace (by exact ⟨bdS.mono hw.s (by omega) (jS (by omega)),hw.sl.2⟩))),(FzAs.same _),aB (m:=9) rfl (.inl ⟨⟨_,hb1⟩,[some 0,none,some 2,some 3,some 4,some 5,some 6,none,some 7],(by repeat' constructor)⟩)⟩))⟩)) (fun x1 hg=>aA (.inl (aB (m:=9) rfl (eA hg [0,1,4,5] (fun x2=>[(8,.one (.n 9 [] 1 0 (x2.s.2).length))]) (fun x2=>[.new ⟨32,true,[[.v (.int .i64 x2.s.1.C.Stripes),.v (.int .i64 x2.s.1.C.Wait),.v (.int .i64 x2.s.1.C.Budget),.v (.int .i64 x2.s.1.C.Cache),.v (.int .i64 x2.s.1.C.Queue),.v (.int .i64 x2.s.1.C.Rate),.v (.int .i64 x2.s.1.C.Burst),.v (.int .i64 x2.s.1.C.Rule.Kind),.v (.int .i64 x2.s.1.C.Rule.N),.v (.string x2.s.1.C.Rule.Key),.v (.string x2.s.1.C.Rule.Text),.s false 5 (List.map (Pol.cells false) x2.s.1.C.Rule.L),.v (.int .i64 x2.s.1.Time),.v (.bool x2.s.1.Shut),.n 16 [] 1 0 (x2.s.1.St).length,.v (.int .i64 x2.s.1.RuleHeld),.v (.int .i64 x2.s.1.B.Rate),.v (.int .i64 x2.s.1.B.Burst),.v (.int .i64 x2.s.1.B.Tokens),.v (.int .i64 x2.s.1.B.At),.n 17 [] 1 0 (x2.s.1.Cache).length,.v (.int .i64 x2.s.1.Used),.v (.int .i64 x2.s.1.W.Now),.s false 1 (List.map (cSl false 3 Timer.cells) x2.s.1.W.Near),.s false 1 (List.map (cSl false 3 Timer.cells) x2.s.1.W.Far),.s false 3 (List.map Timer.cells x2.s.1.W.Rest),.v u2,.v u3,.v u4,.n 4 [] 1 0 (x2.s.1.Tasks).length,.n 5 [] 1 0 (x2.s.1.Deeds).length,.v (.int .i64 x2.s.1.Next)]],0⟩,.dead,.dead,.dead,.new ⟨12,false,List.map (Task.cells false) x2.s.1.Tasks,0⟩,.new ⟨20,false,List.map (Deed.cells false) x2.s.1.Deeds,0⟩,.keep 6,.dead,.dead,.new ⟨7,false,List.map (Item.cells false) x2.s.2,0⟩,.dead,.dead,.dead,.dead,.dead,.dead,.new ⟨2,false,List.map (Stripe.cells false) x2.s.1.St,0⟩,.new ⟨3,false,List.map Verdict.cells x2.s.1.Cache,0⟩]) (fun hb2=>?_) (fun x2 hg=>?_))))))⟩)))))
 · refine have hb2:=hb2.trans (cP.eq_1 ..);aA (brE hb2 (fun hb2 h2=>?_) (fun hb2 h2=>?_))
   · refine brQ hb2 (fun hb2 h3=>?_) (fun hb2 h3=>?_)
     · refine eA hb2 [0,1,4,5,6,8] (fun x3=>[(9,.one (.p 11 [] 0 0 0))]) (fun x3=>[.keep 0,.dead,.keep 2,.keep 3,.keep 4,.keep 5,.keep 6,.dead,.keep 8,.keep 9,.dead,.new ⟨4,true,[[.v (.int .i64 (bB p0.B p0.W.Now).Rate),.v (.int .i64 (bB p0.B p0.W.Now).Burst),.v (.int .i64 (bB p0.B p0.W.Now).Tokens),.v (.int .i64 (bB p0.B p0.W.Now).At)]],0⟩]) (fun hb3=>have hb3:=hb3.trans (a3f.eq_1 ..);.inr (.inl ⟨(.seg 12 12 (.q 0 (.q 1 (.q 2 (.q 3 (.q 4 (.q 5 (.q 6 (.q 7 (.q 8 (.b 9 (.o 10 (.w 11 .leaf)) 10 (.o 9 (.w 11 .leaf)))))))))))) .done),by kernel_rfl,And.intro (⟨_,_,a5z p0.B p0.W.Now,(FzAs.same _),aB (m:=11) rfl (aB (m:=11) rfl (.inl ⟨⟨_,hb3⟩,[some 0,none,some 2,some 3,some 4,some 5,some 6,none,some 8,some 9,none,some 11],(by repeat' constructor)⟩))⟩) (aB (m:=10) rfl (⟨_,_,a5z p0.B p0.W.Now,(FzAs.same _),aB (m:=12) rfl (.inl ⟨⟨_,hb3⟩,[some 0,none,some 2,some 3,some 4,some 5,some 6,none,some 8,some 9,none,some 10],(by repeat' constructor)⟩)⟩))⟩)) (fun x3 hb2=>aA (.inr (.inl ⟨(.seg 15 15 (.q 0 (.q 1 (.q 2 (.q 3 (.q 4 (.q 5 (.q 6 (.q 7 (.q 8 (.o 9 (.o 10 (.s 11 (.s 12 (.o 13 (.o 14 .leaf))))))))))))))) .done),by kernel_rfl,⟨_,_,c0z p0.C.Rule (aC p0.St (p0.Tasks[(p1).toNat]?.getD default).Trace).1.Spans (bB p0.B p0.W.Now).Tokens,(FzAs.same _),aB (m:=13) rfl (aA (.inl (⟨_,_,c0w (bB p0.B p0.W.Now) (bU p0.C.Rule (aC p0.St (p0.Tasks[(p1).toNat]?.getD default).Trace).1.Spans (bB p0.B p0.W.Now).Tokens).2,(FzAs.same _),aB (m:=14) rfl (aB (m:=14) rfl (aA (aA (.inr ⟨0,[false,false,false,false,false,false,false,false,false,false,false,false,false,false,false,false,false,false,false,false,false,false,false,false,false,false,true,true,true,true,true],fun us4 hu4=>⟨_,(.same _),_,_,_,_,_,a1f { p0 with B:=(nJ (bB p0.B p0.W.Now) (bU p0.C.Rule (aC p0.St (p0.Tasks[(p1).toNat]?.getD default).Trace).1.Spans (bB p0.B p0.W.Now).Tokens).2).1 } (aC p0.St (p0.Tasks[(p1).toNat]?.getD default).Trace).1 (bU p0.C.Rule (aC p0.St (p0.Tasks[(p1).toNat]?.getD default).Trace).1.Spans (bB p0.B p0.W.Now).Tokens).1 (us4 26) (us4 27) (us4 28) (us4 29) (us4 30) (hu4 26) (hu4 27) (hu4 28) (hu4 29) (hu4 30) (by exact (hw.mono (by omega)).free),(FzAs.same _),(.same _),(by repeat' constructor),(Int×World),(kH { p0 with B:=(nJ (bB p0.B p0.W.Now) (bU p0.C.Rule (aC p0.St (p0.Tasks[(p1).toNat]?.getD default).Trace).1.Spans (bB p0.B p0.W.Now).Tokens).2).1 } (aC p0.St (p0.Tasks[(p1).toNat]?.getD default).Trace).1 (bU p0.C.Rule (aC p0.St (p0.Tasks[(p1).toNat]?.getD default).Trace).1.Spans (bB p0.B p0.W.Now).Tokens).1),(fun g=>World.cv none none (some (us4 26)) (some (us4 27)) (some (us4 28)) (some (us4 29)) (some (us4 30)) g.2),(fun g=>.one (.v (.int .i64 g.1))),rfl,rfl,fun v1 hvv1=>aB (m:=16) rfl (aB (m:=18) rfl (have hb2:=bG hvv1 hb2;aA (.inl (aV (Y:=List.map (Deed.cells false) (List.set p0.Deeds ((p0.Tasks[(p1).toNat]?.getD default).H).toNat { (p0.Deeds[((p0.Tasks[(p1).toNat]?.getD default).H).toNat]?.getD default) with Keep:=(bU p0.C.Rule (aC p0.St (p0.Tasks[(p1).toNat]?.getD default).Trace).1.Spans (bB p0.B p0.W.Now).Tokens).1 })) (by exact dC (by simp) (fun a ha=>by simp only [ha,Option.getD_some];rfl)) ?_))))⟩⟩))))⟩)))⟩⟩)))
       refine aA (.inl (aV (Y:=List.map (Deed.cells false) (List.set p0.Deeds ((p0.Tasks[(p1).toNat]?.getD default).H).toNat { (p0.Deeds[((p0.Tasks[(p1).toNat]?.getD default).H).toNat]?.getD default) with Keep:=(bU p0.C.Rule (aC p0.St (p0.Tasks[(p1).toNat]?.getD default).Trace).1.Spans (bB p0.B p0.W.Now).Tokens).1,Took:=(bU p0.C.Rule (aC p0.St (p0.Tasks[(p1).toNat]?.getD default).Trace).1.Spans (bB p0.B p0.W.Now).Tokens).2 })) (by exact lM (by simp) (by rfl)) ?_))
       refine aA (bJ fun hN5=>.inl (aV (Y:=List.map (Deed.cells false) (List.set p0.Deeds ((p0.Tasks[(p1).toNat]?.getD default).H).toNat { (p0.Deeds[((p0.Tasks[(p1).toNat]?.getD default).H).toNat]?.getD default) with Keep:=(bU p0.C.Rule (aC p0.St (p0.Tasks[(p1).toNat]?.getD default).Trace).1.Spans (bB p0.B p0.W.Now).Tokens).1,Took:=(bU p0.C.Rule (aC p0.St (p0.Tasks[(p1).toNat]?.getD default).Trace).1.Spans (bB p0.B p0.W.Now).Tokens).2,N:=((((aC p0.St (p0.Tasks[(p1).toNat]?.getD default).Trace).1.Spans).length:Nat):Int) })) (by exact lM (by simp) (by rfl)) ?_))
       refine aA (.inl (aV (Y:=List.map (Deed.cells false) (List.set p0.Deeds ((p0.Tasks[(p1).toNat]?.getD default).H).toNat { (p0.Deeds[((p0.Tasks[(p1).toNat]?.getD default).H).toNat]?.getD default) with Keep:=(bU p0.C.Rule (aC p0.St (p0.Tasks[(p1).toNat]?.getD default).Trace).1.Spans (bB p0.B p0.W.Now).Tokens).1,Took:=(bU p0.C.Rule (aC p0.St (p0.Tasks[(p1).toNat]?.getD default).Trace).1.Spans (bB p0.B p0.W.Now).Tokens).2,N:=((((aC p0.St (p0.Tasks[(p1).toNat]?.getD default).Trace).1.Spans).length:Nat):Int),Forgot:=v1.1 })) (by exact lM (by simp) (by rfl)) ?_))
       refine aA (gM (fun (i:Nat) (s:List Item)=>s.length≤i) hb2 (Nat.le_refl _) [0,1,4,5,6,10] (fun x4=>[(8,.one (.n 9 [] 1 0 (x4.s).length)),(15,.one (.v (.int .i64 ((x4.i:Nat):Int))))]) (fun x4=>[.keep 0,.dead,.dead,.dead,.keep 4,.keep 5,.keep 6,.dead,.keep 8,.new ⟨7,false,List.map (Item.cells false) x4.s,0⟩,.dead,.dead,.dead,.dead,.dead,.dead,.keep 16,.keep 17]) [some 0,none,none,none,some 4,some 5,some 6,none,some 8,some 9,none,none,none,none,none,none,some 16,some 17] ((by repeat' constructor)) (fun x4=>?_))
       have hI4:=x4.hI
       try dsimp only at hI4
       refine aA (aA (bJ fun hN6=>cT (fun hi4=>have hb4:=(x4.bdy hi4).trans (gX.eq_1 ..);have hw4:=aT hi4 (by assumption);brE hb4 (fun hb4 h7=>aA (.inr (.inl ⟨(.seg 11 11 (.q 0 (.q 1 (.q 2 (.q 3 (.q 4 (.q 5 (.q 6 (.q 7 (.o 8 (.o 9 (.o 10 .leaf))))))))))) (.tail 11)),by kernel_rfl,cC hi4 (⟨_,_,(FnOk.conv (.one (FzR.frzA (tD _)) (fun _ h=>by cases h) (fun _ h=>by cases h)) (gV ((aC p0.St (p0.Tasks[(p1).toNat]?.getD default).Trace).1.Spans[x4.i]'hi4) (by exact Nat.le_trans (bdS.get (a1a hw.s) hi4).1 (by omega)))),(FzAs.same _),aB (m:=19) rfl (.inl (aB (m:=19) rfl (.inr (.inl (aV (Y:=List.map (Item.cells false) (x4.s++[(Item.mk (aC p0.St (p0.Tasks[(p1).toNat]?.getD default).Trace).1.Stamp (aX ((aC p0.St (p0.Tasks[(p1).toNat]?.getD default).Trace).1.Spans[x4.i]'hi4)))])) (by simp [bX,bP,-List.map_take,-List.map_drop,-List.drop_one,aQ,aR,mV,bY mV,iC xK];rfl) (cS (b:=72) (hs:=by have q1:=hI4;have q2:=hi4;have q3:=(a1a (k:=(p0.Tasks[p1.toNat]?.getD default).Trace) hw.s).1;refine ⟨?_,?_⟩;(show List.length _*72≤_);(try simp only [LN]);omega;(try simp only [LN]);omega) ?_))))))⟩)⟩))) (fun hb4 h7=>have hb2:=bZ hb2 (x4.outS hi4 hb4);.inl ⟨⟨_,hb2⟩,[some 0,none,none,none,some 4,some 5,some 6,none,none,some 9,none,none,none,none,none,none,some 16,some 17],(by repeat' first|constructor|(simp;done))⟩)) (fun hi4=>have hb2:=bZ hb2 (x4.fin hi4);.inl ⟨⟨_,hb2⟩,[some 0,none,none,none,some 4,some 5,some 6,none,none,some 9,none,none,none,none,none,none,some 16,some 17],(by repeat' first|constructor|(simp;done))⟩)))
       exact aB (m:=20) rfl (x4.goE hi4 hb4 (by have q1:=hI4;rw [jP];omega) [some 0,none,none,none,some 4,some 5,some 6,none,some 8,some 20,none,none,none,none,none,none,some 16,some 17] ⟨rfl,⟨⟨rfl,rfl,rfl,rfl,by ((simp [LstSt.init,LstSt.step,LstInv.init,CntSt.init,CntSt.step,CntInv.init,WhlSt.init,WhlSt.step];done))⟩,(bA hw4),⟨rfl,rfl,rfl,rfl⟩,rfl,⟨rfl,rfl,rfl,rfl⟩,⟨rfl,rfl,rfl,rfl⟩,⟨rfl,rfl,rfl,rfl⟩,rfl,trivial⟩,(by repeat' constructor),⟨⟨rfl,rfl,rfl,rfl⟩,trivial⟩⟩)
     · refine .inl (aV (Y:=List.map (Deed.cells false) (List.set p0.Deeds ((p0.Tasks[(p1).toNat]?.getD default).H).toNat { (p0.Deeds[((p0.Tasks[(p1).toNat]?.getD default).H).toNat]?.getD default) with Void:=true })) (by exact dC (by simp) (fun a ha=>by simp only [ha,Option.getD_some];rfl)) ?_)
       exact .inl ⟨⟨_,hb2⟩,[some 0,none,none,none,some 4,some 5,some 6,none,none,some 9,none,none,none,none,none,none,some 2,some 3],(by repeat' first|constructor|(simp;done))⟩
   · refine .inl (aV (Y:=List.map (Deed.cells false) (List.set p0.Deeds ((p0.Tasks[(p1).toNat]?.getD default).H).toNat { (p0.Deeds[((p0.Tasks[(p1).toNat]?.getD default).H).toNat]?.getD default) with Void:=true })) (by exact dC (by simp) (fun a ha=>by simp only [ha,Option.getD_some];rfl)) ?_)
     exact .inl ⟨⟨_,hb2⟩,[some 0,none,none,none,some 4,some 5,some 6,none,none,some 9,none,none,none,none,none,none,some 2,some 3],(by repeat' first|constructor|(simp;done))⟩
 refine have hJ:=d3l (m:=830002) hw (by omega) (by omega) x2.e;aA (.inl (aV (Y:=List.map (Deed.cells false) (List.set x2.s.1.Deeds ((p0.Tasks[(p1).toNat]?.getD default).H).toNat { (x2.s.1.Deeds[((p0.Tasks[(p1).toNat]?.getD default).H).toNat]?.getD default) with Lin:=x2.s.1.Time })) (by exact dC (by simp) (fun a ha=>by simp only [ha,Option.getD_some];rfl)) ?_))
 refine aA (.inl (aV (Y:=List.map (Deed.cells false) (List.set x2.s.1.Deeds ((p0.Tasks[(p1).toNat]?.getD default).H).toNat { (x2.s.1.Deeds[((p0.Tasks[(p1).toNat]?.getD default).H).toNat]?.getD default) with Now:=x2.s.1.W.Now,Lin:=x2.s.1.Time })) (by exact lM (by simp) (by rfl)) ?_))
 refine aA (.inr (.inl ⟨(.seg 14 14 (.q 0 (.q 1 (.q 2 (.q 3 (.q 4 (.q 5 (.q 6 (.q 7 (.q 8 (.q 9 (.q 10 (.q 11 (.q 12 (.q 13 .leaf)))))))))))))) (.tail 14)),by kernel_rfl,kD (k:=(x2.s.1.St).length) (by simp) (fun hN8=>⟨_,_,iS (p0.Tasks[(p1).toNat]?.getD default).Trace (((x2.s.1.St).length:Nat):Int),(FzAs.same _),bK (by have ho:(p0.Tasks[p1.toNat]?.getD default).Op≠0:=(by rw [h2p];decide);have qt:=hw.tl;have qd:=hw.at p1.toNat ho;(try have qj:=hJ.1.at p1.toNat (by rw [hJ.2.1];exact ho));(try rw [hJ.2.1] at qj);exact stO hJ.1.sl) (.inl (aV (Y:=List.map (Stripe.cells false) (List.set x2.s.1.St ((aD (p0.Tasks[(p1).toNat]?.getD default).Trace (((x2.s.1.St).length:Nat):Int))).toNat (Stripe.mk (-1) (x2.s.1.St[((aD (p0.Tasks[(p1).toNat]?.getD default).Trace (((x2.s.1.St).length:Nat):Int))).toNat]?.getD default).L))) (by exact dC (by simp) (fun a ha=>by simp only [ha,Option.getD_some];rfl)) ?_))⟩)⟩))
 refine aA (aA (aA (kD (k:=(x2.s.2).length) (by simp) (fun hN9=>brQ hg (fun hg h10=>?_) (fun hg h10=>?_)))))
 · refine aA (.inl (aV (Y:=List.map (Deed.cells false) (List.set x2.s.1.Deeds ((p0.Tasks[(p1).toNat]?.getD default).H).toNat { (x2.s.1.Deeds[((p0.Tasks[(p1).toNat]?.getD default).H).toNat]?.getD default) with Now:=x2.s.1.W.Now,Lin:=x2.s.1.Time,Res:=x2.s.1.Time })) (by exact lM (by simp) (by rfl)) ?_))
   refine aA (bK (by have ho:(p0.Tasks[p1.toNat]?.getD default).Op≠0:=(by rw [h2p];decide);have qt:=hw.tl;have qd:=hw.at p1.toNat ho;(try have qj:=hJ.1.at p1.toNat (by rw [hJ.2.1];exact ho));(try rw [hJ.2.1] at qj);(rw [hJ.2.1];omega)) (.inr (aV (Y:=List.map (Task.cells false) (List.set x2.s.1.Tasks (p1).toNat (Task.mk 0 0 (Span.mk 0 0 0 0 false ([]:List Attr)) 0 0 ([]:List Item) 0))) (by exact dC (by simp) (fun a ha=>by (try simp only [rM,T.fzT,cK,bP,bE gG,bE jI]);rfl)) ?_)))
   exact bO hown hg
 · refine aA (bK (by have ho:(p0.Tasks[p1.toNat]?.getD default).Op≠0:=(by rw [h2p];decide);have qt:=hw.tl;have qd:=hw.at p1.toNat ho;(try have qj:=hJ.1.at p1.toNat (by rw [hJ.2.1];exact ho));(try rw [hJ.2.1] at qj);(rw [hJ.2.1];omega)) (.inl (aV (Y:=List.map (Task.cells false) (List.set x2.s.1.Tasks (p1).toNat { (x2.s.1.Tasks[(p1).toNat]?.getD default) with Pc:=3 })) (by exact dC (by simp) (fun a ha=>by simp only [ha,Option.getD_some];rfl)) ?_)))
   refine bK (by have ho:(p0.Tasks[p1.toNat]?.getD default).Op≠0:=(by rw [h2p];decide);have qt:=hw.tl;have qd:=hw.at p1.toNat ho;(try have qj:=hJ.1.at p1.toNat (by rw [hJ.2.1];exact ho));(try rw [hJ.2.1] at qj);(rw [hJ.2.1];omega)) (.inr (aV (Y:=List.map (Task.cells false) (List.set x2.s.1.Tasks (p1).toNat { (x2.s.1.Tasks[(p1).toNat]?.getD default) with Pc:=3,Hand:=x2.s.2 })) (by exact lM (by simp) (by (try simp only [rM,T.fzT,cK,bP,bE jI]);rfl)) ?_))
   exact bO hown hg
theorem c6i {n m:Nat} {w:World} {k:Int} (h:WI n w) (h2:(w.Tasks[k.toNat]?.getD default).Op=2) (hm:n+2≤m) (hx:m≤1000000):WI m (fI w k):=by
 obtain ⟨s,e,hs,hT,hI⟩:=b6a (k:=k) h hm hx
 unfold fI
 show WI m (Step.get _ (cP w k))
 rw [e]
 refine aH (P:=WI m) (fun _=>?_) (fun hl=>?_)
 · exact (((hs.sk (by exact hs.str _)).tz).dd (by exact hs.deed _)).free
 · refine (((hs.sk (by exact hs.str _)).tk (by exact ⟨(hs.task k.toNat).1,hI⟩) (by exact hs.at k.toNat) (by
    intro _ _ e
    have hl:(((s.2).length:Nat):Int)≠0:=by simpa using hl
    have e:=congrArg List.length e
    simp only [List.length_nil] at e
    have e:s.2.length=0:=e
    omega)).dd (by exact hs.deed _)).free
def cU (p0:World) (p1:Int):(Bool×World) :=
 (bif (decide ((((p0.Queue).length:Nat):Int)≥p0.C.Queue)) then (false,p0) else (bif (((((p0.Tasks[(p1).toNat]?.getD default).Hand).length:Nat):Int)==1) then (true,{ p0 with Queue:=(p0.Queue++[((p0.Tasks[(p1).toNat]?.getD default).Hand[0]?.getD default)]),Tasks:=(List.set p0.Tasks (p1).toNat (Task.mk 0 0 (Span.mk 0 0 0 0 false ([]:List Attr)) 0 0 ([]:List Item) 0)),Deeds:=(List.set p0.Deeds ((p0.Tasks[(p1).toNat]?.getD default).H).toNat { (p0.Deeds[((p0.Tasks[(p1).toNat]?.getD default).H).toNat]?.getD default) with Res:=p0.Time }) }) else (true,{ p0 with Queue:=(p0.Queue++[((p0.Tasks[(p1).toNat]?.getD default).Hand[0]?.getD default)]),Tasks:=(List.set p0.Tasks (p1).toNat { (p0.Tasks[(p1).toNat]?.getD default) with Hand:=(List.take (((p0.Tasks[(p1).toNat]?.getD default).Hand).length - 1) (List.drop 1 (p0.Tasks[(p1).toNat]?.getD default).Hand)) }) })))
theorem b4f (p0:World) (p1:Int) (u0:Value) (u1:Value) (u2:Value) (u4:Value) (hu0:fit u0=true) (hu1:fit u1=true) (hu2:fit u2=true) (hu4:fit u4=true) (hw:WI 830000 p0) (hi:0≤p1∧p1 < 5) (h2p:(p0.Tasks[p1.toNat]?.getD default).Op=2) (hn:(p0.Tasks[p1.toNat]?.getD default).Hand≠[]):FnOk prog 185 [.tup [.one (.b (World.cv (some u0) (some u1) (some u2) none (some u4) none none p0))],.one (.v (.int .i64 p1))] ⟨.one (.v (.bool (cU p0 p1).1)),[.one (.b (World.cv (some u0) (some u1) (some u2) none (some u4) none none (cU p0 p1).2))],[],false⟩:=by
 refine FnOk.introV (E:=env) aK aS func185 rfl (by kernel_rfl) rfl ?_
 have hg:=cU.eq_1 p0 p1
 have hown:(false=false→∀g:(Bool×World),AV.Own (AV.one (.v (.bool g.1))))∧(fun g:(Bool×World)=>World.cv (some u0) (some u1) (some u2) none (some u4) none none g.2)=_∧(fun g:(Bool×World)=>AV.one (.v (.bool g.1)))=_:=⟨fun _ g=>.v _,rfl,rfl⟩
 refine aA (aA (aA (.inl ⟨by kernel_rfl,kD (k:=(p0.Queue).length) (by simp) (fun hN1=>brD hg (fun hg h2=>aA (bO hown hg)) (fun hg h2=>aA (bK (by have ho:(p0.Tasks[p1.toNat]?.getD default).Op≠0:=(by rw [h2p];decide);have hz:=List.length_pos_iff.2 hn;have qt:=hw.tl;(try have qd:=hw.at p1.toNat ho);(simp only [List.length_map,List.length_set];omega)) (cZ (i:=(p1).toNat) (l:=p0.Tasks) (by exact Nat.zero_add _) (fun hq3=>aA (.inr (.inl ⟨(.pre 0 (.pre 1 (.pre 5 (.pre 6 (.seg 9 5 (.q 2 (.q 3 (.q 4 (.q 7 (.o 8 .leaf))))) (.tail 9)))))),by kernel_rfl,lA (l:=(p0.Tasks[(p1).toNat]?.getD default).Hand) (by have ho:(p0.Tasks[p1.toNat]?.getD default).Op≠0:=(by rw [h2p];decide);have hz:=List.length_pos_iff.2 hn;have qt:=hw.tl;(try have qd:=hw.at p1.toNat ho);omega) (fun hq4=>.inl (aB (m:=5) rfl (.inr (.inl (aV (Y:=List.map (Item.cells false) (p0.Queue++[((p0.Tasks[(p1).toNat]?.getD default).Hand[0]?.getD default)])) (by simp [bX,bP,-List.map_take,-List.map_drop,-List.drop_one,aQ,aR,mV,bY mV,iC xK];rfl) (cS (b:=72) (hs:=by have a1:=hw.db.1;have a2:=hw.q.1;have a3:=hw.o.1;have a4:=hw.d.1;have a5:=hw.s.1;have a6:=(hw.task p1.toNat).2.1;refine ⟨?_,?_⟩;(show List.length _*72≤_);(try simp only [LN]);omega;(try simp only [LN]);omega) ?_))))))⟩)))))))⟩)))
 refine aB (m:=6) rfl (aA (.inr (.inr ⟨(.q 0 (.q 4 (.q 6 (.q 7 (.z 1 (.z 2 (.z 3 (.m 5 [1,2,3] (.m 8 [1,2,3] (.m 9 [] (.m 10 [] (.m 11 [] .leaf)))))))))))),by kernel_rfl,And.intro (by have ho:(p0.Tasks[p1.toNat]?.getD default).Op≠0:=(by rw [h2p];decide);have hz:=List.length_pos_iff.2 hn;(simp only [List.length_map];exact ⟨by omega,by omega,by omega⟩)) (aV (Y:=List.map (Item.cells false) (List.take (((p0.Tasks[(p1).toNat]?.getD default).Hand).length - 1) (List.drop 1 (p0.Tasks[(p1).toNat]?.getD default).Hand))) (by simp only [aQ,aR,List.length_map,Int.toNat_natCast];rfl) ?_)⟩)))
 refine .inl (aB (m:=7) rfl (And.intro (And.intro (⟨rfl,rfl⟩) (And.intro (⟨rfl,rfl⟩) (And.intro (⟨rfl,rfl⟩) trivial))) (.inl (aV (Y:=List.map (Item.cells false) (List.take (((p0.Tasks[(p1).toNat]?.getD default).Hand).length - 1) (List.drop 1 (p0.Tasks[(p1).toNat]?.getD default).Hand))) (by simp [bX,bP,-List.map_take,-List.map_drop,-List.drop_one,aQ,aR,mV,bY mV,iC xK];done) (cS (b:=72) (hs:=by have a1:=hw.db.1;have a2:=hw.q.1;have a3:=hw.o.1;have a4:=hw.d.1;have a5:=hw.s.1;have a6:=(hw.task p1.toNat).2.1;refine ⟨?_,?_⟩;(show List.length _*72≤_);(try simp only [LN]);omega;(try simp only [LN]);omega) ?_)))))
 refine aB (m:=8) rfl (And.intro (And.intro (⟨rfl,rfl⟩) (And.intro (⟨rfl,rfl⟩) (And.intro (⟨rfl,rfl⟩) trivial))) (bK (by have ho:(p0.Tasks[p1.toNat]?.getD default).Op≠0:=(by rw [h2p];decide);have hz:=List.length_pos_iff.2 hn;have qt:=hw.tl;(try have qd:=hw.at p1.toNat ho);(simp only [List.length_map,List.length_set];omega)) (And.intro trivial (And.intro trivial (.inr (aV (Y:=List.map (Task.cells false) (List.set p0.Tasks (p1).toNat { (p0.Tasks[(p1).toNat]?.getD default) with Hand:=(List.take (((p0.Tasks[(p1).toNat]?.getD default).Hand).length - 1) (List.drop 1 (p0.Tasks[(p1).toNat]?.getD default).Hand)) })) (by exact dC (by simp) (fun a ha=>by (try simp only [rM,T.fzT,cK,bP,bE jI]);(simp only [ha,Option.getD_some];rfl))) ?_))))))
 refine And.intro trivial (aA (aA (bJ fun hN5=>brQ hg (fun hg h6=>aA (.inr (.inl ⟨(.seg 18 18 (.q 0 (.q 1 (.q 2 (.q 3 (.q 4 (.q 5 (.q 6 (.q 7 (.q 8 (.q 9 (.q 10 (.q 11 (.q 12 (.q 13 (.q 14 (.q 15 (.q 16 (.q 17 .leaf)))))))))))))))))) (.tail 18)),by kernel_rfl,bK (by have ho:(p0.Tasks[p1.toNat]?.getD default).Op≠0:=(by rw [h2p];decide);have hz:=List.length_pos_iff.2 hn;have qt:=hw.tl;(try have qd:=hw.at p1.toNat ho);(simp only [List.length_map,List.length_set];omega)) (d2v (i:=(p1).toNat) (l:=p0.Tasks) (x:={ (p0.Tasks[(p1).toNat]?.getD default) with Hand:=(List.take (((p0.Tasks[(p1).toNat]?.getD default).Hand).length - 1) (List.drop 1 (p0.Tasks[(p1).toNat]?.getD default).Hand)) }) (by exact Nat.zero_add _) (fun _=>bK (by have ho:(p0.Tasks[p1.toNat]?.getD default).Op≠0:=(by rw [h2p];decide);have hz:=List.length_pos_iff.2 hn;have qt:=hw.tl;(try have qd:=hw.at p1.toNat ho);(simp only [List.length_map,List.length_set];omega)) (.inl (aV (Y:=List.map (Deed.cells false) (List.set p0.Deeds ((p0.Tasks[(p1).toNat]?.getD default).H).toNat { (p0.Deeds[((p0.Tasks[(p1).toNat]?.getD default).H).toNat]?.getD default) with Res:=p0.Time })) (by exact dC (by simp) (fun a ha=>by simp only [ha,Option.getD_some];rfl)) ?_))))⟩))) (fun hg h6=>aA (bO hown hg)))))
 refine bK (by have ho:(p0.Tasks[p1.toNat]?.getD default).Op≠0:=(by rw [h2p];decide);have hz:=List.length_pos_iff.2 hn;have qt:=hw.tl;(try have qd:=hw.at p1.toNat ho);(simp only [List.length_map,List.length_set];omega)) (.inr (aV (Y:=List.map (Task.cells false) (List.set p0.Tasks (p1).toNat (Task.mk 0 0 (Span.mk 0 0 0 0 false ([]:List Attr)) 0 0 ([]:List Item) 0))) (by exact lM (by simp) (by (try simp only [rM,T.fzT,cK,bP,bE gG,bE jI]);rfl)) ?_))
 exact aA (bO hown hg)
theorem c4h {n m:Nat} {w:World} {k:Int} (h:WI n w) (hn:(w.Tasks[k.toNat]?.getD default).Hand≠[]) (hm:n+1≤m):WI m (cU w k).2:=by
 have h':WI m w:=h.mono (by omega)
 have hI:Item.bd n ((w.Tasks[k.toNat]?.getD default).Hand[0]?.getD default):=iM (h.task k.toNat).2 fN 0
 have hq:=h'.qs (a9m (m:=m) h hm hI)
 show WR m (cU w k)
 unfold cU
 refine aH (P:=WR m) (fun _=>h') (fun _=>aH (P:=WR m) (fun _=>?_) (fun hl=>?_))
 · exact (hq.tz.dd (by exact h'.deed _))
 · have hT:=h'.task k.toNat
   refine hq.tk (by exact ⟨hT.1,bdS.take (bdS.drop hT.2 1) _⟩) (by exact h'.at k.toNat) (by
    intro _ _ e
    have e:=congrArg List.length e
    have hz:=List.length_pos_iff.2 hn
    have hl:((((w.Tasks[k.toNat]?.getD default).Hand).length:Nat):Int)≠1:=by simpa using hl
    rw [List.length_take,List.length_drop] at e
    simp only [List.length_nil] at e
    omega)
def gI (p0:World) (p1:Int):(Bool×World) :=
 (bif ((p0.Tasks[(p1).toNat]?.getD default).Pc==0) then (bif ((p0.St[((aD (p0.Tasks[(p1).toNat]?.getD default).Trace (((p0.St).length:Nat):Int))).toNat]?.getD default).Held != (-1)) then (false,p0) else (true,{ p0 with Time:=(IntKind.i64.wrap (p0.Time+1)),St:=(List.set p0.St ((aD (p0.Tasks[(p1).toNat]?.getD default).Trace (((p0.St).length:Nat):Int))).toNat (Stripe.mk p1 (p0.St[((aD (p0.Tasks[(p1).toNat]?.getD default).Trace (((p0.St).length:Nat):Int))).toNat]?.getD default).L)),Tasks:=(List.set p0.Tasks (p1).toNat { (p0.Tasks[(p1).toNat]?.getD default) with Pc:=1 }) })) else (bif ((p0.Tasks[(p1).toNat]?.getD default).Pc==1) then (bif (p0.RuleHeld != (-1)) then (false,p0) else (true,{ p0 with Time:=(IntKind.i64.wrap (p0.Time+1)),RuleHeld:=p1,Tasks:=(List.set p0.Tasks (p1).toNat { (p0.Tasks[(p1).toNat]?.getD default) with Pc:=2 }) })) else (bif ((p0.Tasks[(p1).toNat]?.getD default).Pc==2) then (aZ (fI p0 p1) fun (v1:World)=>(true,{ v1 with Time:=(IntKind.i64.wrap (v1.Time+1)),Due:=p0.Due,Queue:=p0.Queue,Out:=p0.Out })) else (aZ (cU p0 p1) fun (v2:(Bool×World))=>(bif (!v2.1) then (false,{ v2.2 with St:=p0.St,Cache:=p0.Cache,Due:=p0.Due,Out:=p0.Out }) else (true,{ v2.2 with Time:=(IntKind.i64.wrap (v2.2.Time+1)),St:=p0.St,Cache:=p0.Cache,Due:=p0.Due,Out:=p0.Out }))))))
theorem b4e (p0:World) (p1:Int) (u2:Value) (u4:Value) (hu2:fit u2=true) (hu4:fit u4=true) (hw:WI 820000 p0) (hi:0≤p1∧p1 < 5) (h2p:(p0.Tasks[p1.toNat]?.getD default).Op=2):FnOk prog 164 [.tup [.one (.b (World.cv none none (some u2) none (some u4) none none p0))],.one (.v (.int .i64 p1))] ⟨.one (.v (.bool (gI p0 p1).1)),[.one (.b (World.cv none none (some u2) none (some u4) none none (gI p0 p1).2))],[],false⟩:=by
 refine FnOk.introV (E:=env) aK aS func164 rfl (by kernel_rfl) rfl ?_
 have hg:=gI.eq_1 p0 p1
 have hown:(false=false→∀g:(Bool×World),AV.Own (AV.one (.v (.bool g.1))))∧(fun g:(Bool×World)=>World.cv none none (some u2) none (some u4) none none g.2)=_∧(fun g:(Bool×World)=>AV.one (.v (.bool g.1)))=_:=⟨fun _ g=>.v _,rfl,rfl⟩
 refine aA (aA (aA (bK (by have ho:(p0.Tasks[p1.toNat]?.getD default).Op≠0:=(by rw [h2p];decide);have qt:=hw.tl;(try have qd:=hw.at p1.toNat ho);(simp only [List.length_map,List.length_set];omega)) (cZ (i:=(p1).toNat) (l:=p0.Tasks) (by exact Nat.zero_add _) (fun hq1=>aA (brQ hg (fun hg h2=>?_) (fun hg h2=>?_)))))))
 · refine aA (.inl ⟨by kernel_rfl,bK (by have ho:(p0.Tasks[p1.toNat]?.getD default).Op≠0:=(by rw [h2p];decide);have qt:=hw.tl;(try have qd:=hw.at p1.toNat ho);(simp only [List.length_map,List.length_set];omega)) (cZ (i:=(p1).toNat) (l:=p0.Tasks) (by exact Nat.zero_add _) (fun hq3=>kD (k:=(p0.St).length) (by simp) (fun hN4=>⟨_,_,iS (p0.Tasks[(p1).toNat]?.getD default).Trace (((p0.St).length:Nat):Int),(FzAs.same _),aA (aA (bK (by have ho:(p0.Tasks[p1.toNat]?.getD default).Op≠0:=(by rw [h2p];decide);have qt:=hw.tl;(try have qd:=hw.at p1.toNat ho);(simp only [List.length_map,List.length_set];exact stO hw.sl)) (cZ (i:=((aD (p0.Tasks[(p1).toNat]?.getD default).Trace (((p0.St).length:Nat):Int))).toNat) (l:=p0.St) (by exact Nat.zero_add _) (fun hq5=>brW hg (fun hg h6=>aA (bO hown hg)) (fun hg h6=>aA (bK (by have ho:(p0.Tasks[p1.toNat]?.getD default).Op≠0:=(by rw [h2p];decide);have qt:=hw.tl;(try have qd:=hw.at p1.toNat ho);(simp only [List.length_map,List.length_set];exact stO hw.sl)) (.inl (aV (Y:=List.map (Stripe.cells false) (List.set p0.St ((aD (p0.Tasks[(p1).toNat]?.getD default).Trace (((p0.St).length:Nat):Int))).toNat (Stripe.mk p1 (p0.St[((aD (p0.Tasks[(p1).toNat]?.getD default).Trace (((p0.St).length:Nat):Int))).toNat]?.getD default).L))) (by exact dC (by simp) (fun a ha=>by simp only [ha,Option.getD_some];rfl)) ?_))))))))⟩)))⟩)
   refine bK (by have ho:(p0.Tasks[p1.toNat]?.getD default).Op≠0:=(by rw [h2p];decide);have qt:=hw.tl;(try have qd:=hw.at p1.toNat ho);(simp only [List.length_map,List.length_set];omega)) (.inl (aV (Y:=List.map (Task.cells false) (List.set p0.Tasks (p1).toNat { (p0.Tasks[(p1).toNat]?.getD default) with Pc:=1 })) (by exact dC (by simp) (fun a ha=>by simp only [ha,Option.getD_some];rfl)) ?_))
   exact aA (aA (bO hown hg))
 · refine aA (brQ hg (fun hg h7=>aA (aA (brW hg (fun hg h8=>aA (bO hown hg)) (fun hg h8=>aA (bK (by have ho:(p0.Tasks[p1.toNat]?.getD default).Op≠0:=(by rw [h2p];decide);have qt:=hw.tl;(try have qd:=hw.at p1.toNat ho);(simp only [List.length_map,List.length_set];omega)) (.inl (aV (Y:=List.map (Task.cells false) (List.set p0.Tasks (p1).toNat { (p0.Tasks[(p1).toNat]?.getD default) with Pc:=2 })) (by exact dC (by simp) (fun a ha=>by simp only [ha,Option.getD_some];rfl)) ?_))))))) (fun hg h7=>aA (brQ hg (fun hg h9=>.inr ⟨0,[false,false,false,false,false,false,false,false,false,false,false,false,false,false,false,false,false,false,false,false,false,false,false,false,false,false,true,true,true],fun us10 hu10=>⟨_,(.same _),_,_,_,_,_,b7b p0 p1 (us10 26) (us10 27) (us10 28) (hu10 26) (hu10 27) (hu10 28) (by have ho:(p0.Tasks[p1.toNat]?.getD default).Op≠0:=(by rw [h2p];decide);exact hw.mono (by omega)) (by have ho:(p0.Tasks[p1.toNat]?.getD default).Op≠0:=(by rw [h2p];decide);exact hi) (by have ho:(p0.Tasks[p1.toNat]?.getD default).Op≠0:=(by rw [h2p];decide);exact h2p),(FzAs.same _),(.same _),⟨rfl,rfl,rfl,trivial⟩,World,(fI p0 p1),(fun g=>World.cv none none (some (us10 26)) (some (us10 27)) (some (us10 28)) none none g),(fun g=>.tup []),rfl,rfl,fun v1 hvv1=>aB (m:=8) rfl (aB (m:=12) rfl (have hg:=bG hvv1 hg;aA (aA (bO hown hg))))⟩⟩) (fun hg h9=>aA (.inr ⟨0,[false,false,false,false,false,false,false,false,false,false,false,false,false,false,true,false,false,false,false,false,true,false,false,false,false,false,true,false,true],fun us11 hu11=>⟨_,(.same _),_,_,_,_,_,b4f p0 p1 (us11 14) (us11 20) (us11 26) (us11 28) (hu11 14) (hu11 20) (hu11 26) (hu11 28) (by have ho:(p0.Tasks[p1.toNat]?.getD default).Op≠0:=(by rw [h2p];decide);exact hw.mono (by omega)) (by have ho:(p0.Tasks[p1.toNat]?.getD default).Op≠0:=(by rw [h2p];decide);exact hi) (by have ho:(p0.Tasks[p1.toNat]?.getD default).Op≠0:=(by rw [h2p];decide);exact h2p) (by have ho:(p0.Tasks[p1.toNat]?.getD default).Op≠0:=(by rw [h2p];decide);(exact hw.hand p1.toNat h2p (by rintro (h | h | h) <;> contradiction))),(FzAs.same _),(.same _),⟨rfl,rfl,rfl,rfl,trivial⟩,(Bool×World),(cU p0 p1),(fun g=>World.cv (some (us11 14)) (some (us11 20)) (some (us11 26)) none (some (us11 28)) none none g.2),(fun g=>.one (.v (.bool g.1))),rfl,rfl,fun v2 hvv2=>aB (m:=8) rfl (aB (m:=11) rfl (have hg:=bG hvv2 hg;brE hg (fun hg h12=>aA (bO hown hg)) (fun hg h12=>aA (aA (bO hown hg)))))⟩⟩)))))
   exact aA (aA (bO hown hg))
theorem c4g {n m:Nat} {w:World} {k:Int} (h:WI n w) (h2:(w.Tasks[k.toNat]?.getD default).Op=2) (hm:n+5≤m) (hx:m≤890000):WI m (gI w k).2:=by
 have h':WI m w:=h.mono (by omega)
 show WR m (gI w k)
 unfold gI
 refine aH (P:=WR m) (fun _=>aH (P:=WR m) (fun _=>h') (fun _=>?_)) (fun q0=>aH (P:=WR m) (fun _=>aH (P:=WR m) (fun _=>h') (fun _=>?_)) (fun q1=>aH (P:=WR m) (fun _=>?_) (fun q2=>?_)))
 · exact ((h'.sk (by exact h'.str _)).pc (by exact h'.task k.toNat) (by exact h'.at k.toNat) (by exact .inr (.inr (.inl rfl)))).free
 · exact (h'.pc (by exact h'.task k.toNat) (by exact h'.at k.toNat) (by exact .inr (.inr (.inr rfl)))).free
 · have hd:=c6i (k:=k) h h2 (m:=m) (by omega) (by omega)
   exact (hd.mix hd hd h' h' h').free
 · have hd:=c4h (m:=m) h (h.hand k.toNat h2 (by
    rintro (e | e | e)
    · rw [e] at q0;cases q0
    · rw [e] at q1;cases q1
    · rw [e] at q2;cases q2)) (by omega)
   exact aH (P:=WR m) (fun _=>hd.mix h' h' h' hd h') (fun _=>(hd.mix h' h' h' hd h').free)
def jT (p0:World) (p1:Int):World :=
 { p0 with Time:=(IntKind.i64.wrap (p0.Time+1)),Due:=(List.take ((p0.Due).length - 1) (List.drop 1 p0.Due)),Tasks:=(List.set p0.Tasks (p1).toNat (Task.mk 2 0 (Span.mk 0 0 0 0 false ([]:List Attr)) (p0.Due[0]?.getD default).Trace (p0.Due[0]?.getD default).Id ([]:List Item) (((p0.Deeds).length:Nat):Int))),Deeds:=(p0.Deeds++[(Deed.mk 2 p1 (Span.mk 0 0 0 0 false ([]:List Attr)) (p0.Due[0]?.getD default).Trace (p0.Due[0]?.getD default).Id 0 false false 0 0 0 p0.W.Now p0.Time (-1) (-1))]) }
theorem b2i (p0:World) (p1:Int) (u0:Value) (u1:Value) (u3:Value) (u4:Value) (hu0:fit u0=true) (hu1:fit u1=true) (hu3:fit u3=true) (hu4:fit u4=true) (hw:WI 830000 p0) (hi:0≤p1∧p1 < 5) (hd:0 < p0.Due.length):FnOk prog 165 [.tup [.one (.b (World.cv (some u0) (some u1) none (some u3) (some u4) none none p0))],.one (.v (.int .i64 p1))] ⟨.tup [],[.one (.b (World.cv (some u0) (some u1) none (some u3) (some u4) none none (jT p0 p1)))],[],false⟩:=by
 refine FnOk.introV (E:=env) aK aS func165 rfl (by kernel_rfl) rfl ?_
 have hg:=jT.eq_1 p0 p1
 have hown:(false=false→∀g:World,AV.Own (AV.tup []))∧(fun g:World=>World.cv (some u0) (some u1) none (some u3) (some u4) none none g)=_∧(fun g:World=>AV.tup [])=_:=⟨fun _ g=>trivial,rfl,rfl⟩
 refine aA (bK (by have qt:=hw.tl;(try have qd:=hw.at p1.toNat ho);(simp only [List.length_map,List.length_set];omega)) (cZ (i:=0) (l:=p0.Due) (by rfl) (fun hq1=>aB (m:=5) rfl (aA (.inl (aB (m:=6) rfl (And.intro (by refine ⟨?_,?_,?_⟩ <;> (try simp only [List.length_map]) <;> omega) ?_)))))))
 refine .inl (aV (Y:=List.map Timer.cells (List.take ((p0.Due).length - 1) (List.drop 1 p0.Due))) (by simp [bX,bP,-List.map_take,-List.map_drop,-List.drop_one,aQ,aR,bR,bS,bY bR,fH bS];done) (cS (b:=24) (hs:=by have a1:=hw.db.1;have a2:=hw.q.1;have a3:=hw.o.1;have a4:=hw.d.1;have a5:=hw.s.1;refine ⟨?_,?_⟩;(show List.length _*24≤_);(try simp only [LN]);omega;(try simp only [LN]);omega) ?_))
 refine aB (m:=7) rfl (aA (.inr (.inl ⟨(.seg 16 16 (.q 0 (.q 1 (.q 2 (.q 3 (.q 4 (.q 5 (.q 6 (.q 7 (.q 8 (.q 9 (.q 10 (.q 11 (.q 12 (.q 13 (.q 14 (.q 15 .leaf)))))))))))))))) (.tail 16)),by kernel_rfl,kD (k:=(p0.Deeds).length) (by simp) (fun hN2=>bK (by have qt:=hw.tl;(try have qd:=hw.at p1.toNat ho);(simp only [List.length_map,List.length_set];omega)) (.inr (aV (Y:=List.map (Task.cells false) (List.set p0.Tasks (p1).toNat (Task.mk 2 0 (Span.mk 0 0 0 0 false ([]:List Attr)) (p0.Due[0]?.getD default).Trace (p0.Due[0]?.getD default).Id ([]:List Item) (((p0.Deeds).length:Nat):Int)))) (by exact dC (by simp) (fun a ha=>by (try simp only [rM,T.fzT,cK,bP,bE gG,bE jI]);rfl)) ?_)))⟩)))
 refine aA (.inr (.inl ⟨(.pre 0 (.pre 1 (.pre 5 (.pre 6 (.pre 8 (.pre 10 (.pre 15 (.seg 21 14 (.q 2 (.q 3 (.q 4 (.q 7 (.q 9 (.q 11 (.q 12 (.q 13 (.q 14 (.q 16 (.q 17 (.q 18 (.q 19 (.o 20 .leaf)))))))))))))) (.tail 21))))))))),by kernel_rfl,.inl (aB (m:=8) rfl (.inr (.inr (.inl (aV (Y:=List.map (Deed.cells false) (p0.Deeds++[(Deed.mk 2 p1 (Span.mk 0 0 0 0 false ([]:List Attr)) (p0.Due[0]?.getD default).Trace (p0.Due[0]?.getD default).Id 0 false false 0 0 0 p0.W.Now p0.Time (-1) (-1))])) (by simp [bX,bP,-List.map_take,-List.map_drop,-List.drop_one,aQ,aR,rJ,bY rJ,iC a3i,bE xT];rfl) (cS (b:=168) (hs:=by have a1:=hw.db.1;have a2:=hw.q.1;have a3:=hw.o.1;have a4:=hw.d.1;have a5:=hw.s.1;refine ⟨?_,?_⟩;(show List.length _*168≤_);(try simp only [LN]);omega;(try simp only [LN]);omega) ?_))))))⟩))
 exact aB (m:=9) rfl (bO hown hg)
theorem c2b {n m:Nat} {w:World} {k:Int} (h:WI n w) (hm:n+1≤m):WI m (jT w k):=by
 have hd:WI n { w with Due:=List.take (w.Due.length - 1) (List.drop 1 w.Due) }:=h.ds (by have:=h.d.1;rw [List.length_take];omega)
 exact ((hd.da hm (by exact fN)).pc (by exact ⟨fN,fN⟩) (by exact fun _=>⟨Int.natCast_nonneg _,by show ((w.Deeds.length:Nat):Int) < ((List.length (w.Deeds++[_]):Nat):Int);rw [jP];omega⟩) (by exact .inr (.inl rfl))).free
def gC (p0:World) (p1:Int):(Bool×World) :=
 (bif ((p0.Tasks[(p1).toNat]?.getD default).Op==1) then (aZ (gJ p0 p1) fun (v1:(Bool×World))=>(v1.1,{ v1.2 with Due:=p0.Due,Out:=p0.Out })) else (bif ((p0.Tasks[(p1).toNat]?.getD default).Op==2) then (aZ (gI p0 p1) fun (v2:(Bool×World))=>(v2.1,{ v2.2 with Due:=p0.Due,Out:=p0.Out })) else (bif (decide (p1 < 3)) then (false,p0) else (bif ((((p0.Due).length:Nat):Int)==0) then (false,p0) else (aZ (jT p0 p1) fun (v3:World)=>(true,{ v3 with St:=p0.St,Cache:=p0.Cache,Queue:=p0.Queue,Out:=p0.Out }))))))
theorem c0u (p0:World) (p1:Int) (u4:Value) (hu4:fit u4=true) (hw:WI 810000 p0) (hi:0≤p1∧p1 < 5):FnOk prog 129 [.tup [.one (.b (World.cv none none none none (some u4) none none p0))],.one (.v (.int .i64 p1))] ⟨.one (.v (.bool (gC p0 p1).1)),[.one (.b (World.cv none none none none (some u4) none none (gC p0 p1).2))],[],false⟩:=by
 refine FnOk.introV (E:=env) aK aS func129 rfl (by kernel_rfl) rfl ?_
 have hg:=gC.eq_1 p0 p1
 have hown:(false=false→∀g:(Bool×World),AV.Own (AV.one (.v (.bool g.1))))∧(fun g:(Bool×World)=>World.cv none none none none (some u4) none none g.2)=_∧(fun g:(Bool×World)=>AV.one (.v (.bool g.1)))=_:=⟨fun _ g=>.v _,rfl,rfl⟩
 exact aA (aA (aA (bK (by have qt:=hw.tl;(try have qd:=hw.at p1.toNat ho);(simp only [List.length_map,List.length_set];omega)) (cZ (i:=(p1).toNat) (l:=p0.Tasks) (by exact Nat.zero_add _) (fun hq1=>aA (brQ hg (fun hg h2=>aA (.inr ⟨0,[false,false,false,false,false,false,false,false,false,false,false,false,false,false,false,false,false,false,false,false,false,false,false,false,false,false,true,false,true],fun us3 hu3=>⟨_,(.same _),_,_,_,_,_,b4g p0 p1 (us3 26) (us3 28) (hu3 26) (hu3 28) (by exact hw.mono (by omega)) (by exact hi) (by assumption),(FzAs.same _),(.same _),⟨rfl,rfl,trivial⟩,(Bool×World),(gJ p0 p1),(fun g=>World.cv none none (some (us3 26)) none (some (us3 28)) none none g.2),(fun g=>.one (.v (.bool g.1))),rfl,rfl,fun v1 hvv1=>aB (m:=9) rfl (aB (m:=14) rfl (have hg:=bG hvv1 hg;bO hown hg))⟩⟩)) (fun hg h2=>aA (brQ hg (fun hg h4=>aA (.inr ⟨0,[false,false,false,false,false,false,false,false,false,false,false,false,false,false,false,false,false,false,false,false,false,false,false,false,false,false,true,false,true],fun us5 hu5=>⟨_,(.same _),_,_,_,_,_,b4e p0 p1 (us5 26) (us5 28) (hu5 26) (hu5 28) (by exact hw.mono (by omega)) (by exact hi) (by assumption),(FzAs.same _),(.same _),⟨rfl,rfl,trivial⟩,(Bool×World),(gI p0 p1),(fun g=>World.cv none none (some (us5 26)) none (some (us5 28)) none none g.2),(fun g=>.one (.v (.bool g.1))),rfl,rfl,fun v2 hvv2=>aB (m:=9) rfl (aB (m:=14) rfl (have hg:=bG hvv2 hg;bO hown hg))⟩⟩)) (fun hg h4=>aA (aA (nC hg (fun hg h6=>kD (k:=(p0.Due).length) (by simp) (fun hN7=>brQ hg (fun hg h8=>aA (bO hown hg)) (fun hg h8=>aA (.inr ⟨0,[false,false,false,false,false,false,false,false,false,false,false,false,false,false,true,false,false,false,false,false,true,false,false,false,false,false,false,true,true],fun us9 hu9=>⟨_,(.same _),_,_,_,_,_,b2i p0 p1 (us9 14) (us9 20) (us9 27) (us9 28) (hu9 14) (hu9 20) (hu9 27) (hu9 28) (by exact hw.mono (by omega)) (by exact hi) (by omega),(FzAs.same _),(.same _),⟨rfl,rfl,rfl,rfl,trivial⟩,World,(jT p0 p1),(fun g=>World.cv (some (us9 14)) (some (us9 20)) none (some (us9 27)) (some (us9 28)) none none g),(fun g=>.tup []),rfl,rfl,fun v3 hvv3=>aB (m:=9) rfl (aB (m:=12) rfl (have hg:=bG hvv3 hg;aA (bO hown hg)))⟩⟩)))) (fun hg h6=>aA (bO hown hg)))))))))))))
theorem c8t {n m:Nat} {w:World} {k:Int} (h:WI n w) (hm:n+5≤m) (hx:m≤890000):WI m (gC w k).2:=by
 have h':WI m w:=h.mono (by omega)
 show WR m (gC w k)
 unfold gC
 refine aH (P:=WR m) (fun q=>?_) (fun _=>aH (P:=WR m) (fun q=>?_) (fun _=>aH (P:=WR m) (fun _=>h') (fun _=>aH (P:=WR m) (fun _=>h') (fun _=>?_))))
 · have hd:=c4i h (k:=k) (by simpa using q) hm hx
   exact hd.mix hd hd h' hd h'
 · have hd:=c4g h (k:=k) (by simpa using q) hm hx
   exact hd.mix hd hd h' hd h'
 · have hd:=c2b (m:=m) (k:=k) h (by omega)
   exact hd.mix h' h' hd h' h'
def a5s:Step (Unit) (Bool×World) :=
 (.next ())
def gR (p0:World) (p1:Event):(Bool×World) :=
 (bif (p1.Kind==1) then (bif (!(aO p1.K 0 2)) then (false,p0) else (bif ((p0.Tasks[(p1.K).toNat]?.getD default).Op != 0) then (false,p0) else (aZ (dA p0 p1.K p1.S) fun (v1:World)=>(true,{ v1 with St:=p0.St,Cache:=p0.Cache,Due:=p0.Due,Queue:=p0.Queue,Out:=p0.Out })))) else (bif (p1.Kind==2) then (bif (aO p1.K 0 4) then (aZ (gC p0 p1.K) fun (v2:(Bool×World))=>(v2.1,{ v2.2 with Out:=p0.Out })) else (false,p0)) else (bif (p1.Kind==3) then (bif (!(aO p1.K 1 20)) then (false,p0) else (bif (decide ((IntKind.i64.wrap (p0.W.Now+p1.K)) > 100000)) then (false,p0) else (Step.get (fun s1=>(true,{ p0 with Time:=(IntKind.i64.wrap (p0.Time+1)),W:=(cV p0.W p1.K).1,Due:=(p0.Due++(cV p0.W p1.K).2) })) (a5s)))) else (bif (p1.Kind==4) then (bif ((((p0.Queue).length:Nat):Int)==0) then (false,p0) else (true,{ p0 with Time:=(IntKind.i64.wrap (p0.Time+1)),Queue:=(List.take ((p0.Queue).length - 1) (List.drop 1 p0.Queue)),Out:=(p0.Out++[(p0.Queue[0]?.getD default)]) })) else (bif (p1.Kind==5) then (bif p0.Shut then (false,p0) else (true,{ p0 with Time:=(IntKind.i64.wrap (p0.Time+1)),Shut:=true,W:={ bT with Now:=p0.W.Now },Due:=(p0.Due++(aI p0.W)),Deeds:=(p0.Deeds++[(Deed.mk 4 0 (Span.mk 0 0 0 0 false ([]:List Attr)) 0 0 0 false false 0 0 0 p0.W.Now p0.Time p0.Time p0.Time)]) })) else (false,p0))))))
theorem c0r (p0:World) (p1:Event) (hw:WI 800000 p0) (hs:Span.bd 1000 p1.S):FnOk prog 79 [.tup [.one (.b (World.cv none none none none none none none p0))],.agg ((Event.cells false) p1)] ⟨.one (.v (.bool (gR p0 p1).1)),[.one (.b (World.cv none none none none none none none (gR p0 p1).2))],[],false⟩:=by
 refine FnOk.introV (E:=env) aK aS func79 rfl (by kernel_rfl) rfl ?_
 have hg:=gR.eq_1 p0 p1
 have hown:(false=false→∀g:(Bool×World),AV.Own (AV.one (.v (.bool g.1))))∧(fun g:(Bool×World)=>World.cv none none none none none none none g.2)=_∧(fun g:(Bool×World)=>AV.one (.v (.bool g.1)))=_:=⟨fun _ g=>.v _,rfl,rfl⟩
 refine aA (aB (m:=9) rfl (aA (aA (aA (brQ hg (fun hg h1=>aA (aA (.inl ⟨by kernel_rfl,⟨_,_,cR p1.K 0 2,(FzAs.same _),brF hg (fun hg h2=>bK (by have qt:=hw.tl;(try have q:=bD.1 (nf ‹(!aO p1.K 0 2)=false›));(try have q2:=bD.1 ‹aO p1.K 0 4=true›);(simp only [List.length_map];omega)) (cZ (i:=(p1.K).toNat) (l:=p0.Tasks) (by exact Nat.zero_add _) (fun hq3=>brW hg (fun hg h4=>aA (bO hown hg)) (fun hg h4=>aA (.inr ⟨0,[false,false,false,false,false,false,false,false,false,false,false,false,false,false,true,false,false,false,false,false,true,false,false,false,false,false,true,true,true],fun us5 hu5=>⟨_,(.same _),_,_,_,_,_,b2j p0 p1.K p1.S (us5 14) (us5 20) (us5 26) (us5 27) (us5 28) (hu5 14) (hu5 20) (hu5 26) (hu5 27) (hu5 28) (by have qt:=hw.tl;(try have q:=bD.1 (nf ‹(!aO p1.K 0 2)=false›));(try have q2:=bD.1 ‹aO p1.K 0 4=true›);exact hw.mono (by omega)) (by have qt:=hw.tl;(try have q:=bD.1 (nf ‹(!aO p1.K 0 2)=false›));(try have q2:=bD.1 ‹aO p1.K 0 4=true›);omega) (by have qt:=hw.tl;(try have q:=bD.1 (nf ‹(!aO p1.K 0 2)=false›));(try have q2:=bD.1 ‹aO p1.K 0 4=true›);exact nM (by omega) _ hs),(FzAs.same _),(.same _),(by repeat' constructor),World,(dA p0 p1.K p1.S),(fun g=>World.cv (some (us5 14)) (some (us5 20)) (some (us5 26)) (some (us5 27)) (some (us5 28)) none none g),(fun g=>.tup []),rfl,rfl,fun v1 hvv1=>aB (m:=11) rfl (aB (m:=13) rfl (have hg:=bG hvv1 hg;aA (bO hown hg)))⟩⟩))))) (fun hg h2=>aA (bO hown hg))⟩⟩))) (fun hg h1=>aA (brQ hg (fun hg h6=>aA (.inl (⟨_,_,cR p1.K 0 4,(FzAs.same _),aB (m:=11) rfl (brE hg (fun hg h7=>.inr ⟨0,[false,false,false,false,false,false,false,false,false,false,false,false,false,false,false,false,false,false,false,false,false,false,false,false,false,false,false,false,true],fun us8 hu8=>⟨_,(.same _),_,_,_,_,_,c0u p0 p1.K (us8 28) (hu8 28) (by have qt:=hw.tl;(try have q:=bD.1 (nf ‹(!aO p1.K 0 2)=false›));(try have q2:=bD.1 ‹aO p1.K 0 4=true›);exact hw.mono (by omega)) (by have qt:=hw.tl;(try have q:=bD.1 (nf ‹(!aO p1.K 0 2)=false›));(try have q2:=bD.1 ‹aO p1.K 0 4=true›);omega),(FzAs.same _),(.same _),⟨rfl,trivial⟩,(Bool×World),(gC p0 p1.K),(fun g=>World.cv none none none none (some (us8 28)) none none g.2),(fun g=>.one (.v (.bool g.1))),rfl,rfl,fun v2 hvv2=>aB (m:=12) rfl (aB (m:=18) rfl (have hg:=bG hvv2 hg;bO hown hg))⟩⟩) (fun hg h7=>bO hown hg))⟩))) (fun hg h6=>aA (brQ hg (fun hg h9=>?_) (fun hg h9=>?_))))))))))
 · refine aA (aA (.inl ⟨by kernel_rfl,⟨_,_,cR p1.K 1 20,(FzAs.same _),brF hg (fun hg h10=>brD hg (fun hg h11=>aA (bO hown hg)) (fun hg h11=>eA hg [0] (fun x1=>[(5,.one (.p 12 [] 0 0 0)),(6,.one (.n 11 [] 1 0 ((cV p0.W p1.K).2).length))]) (fun x1=>[.keep 0,.dead,.keep 2,.keep 3,.keep 4,.keep 5,.keep 6,.keep 7,.keep 8,.dead,.dead,.new ⟨3,false,List.map Timer.cells (cV p0.W p1.K).2,0⟩,.new ⟨4,true,[[.v (.int .i64 (cV p0.W p1.K).1.Now),.s false 1 (List.map (cSl false 3 Timer.cells) (cV p0.W p1.K).1.Near),.s false 1 (List.map (cSl false 3 Timer.cells) (cV p0.W p1.K).1.Far),.s false 3 (List.map Timer.cells (cV p0.W p1.K).1.Rest)]],0⟩]) (fun hb1=>have hb1:=hb1.trans (a5s.eq_1 ..);.inr (.inl ⟨(.seg 13 13 (.q 0 (.q 1 (.q 2 (.q 3 (.q 4 (.q 5 (.b 6 (.s 7 (.s 8 (.s 9 (.o 10 (.w 11 (.o 12 .leaf)))))) 10 (.o 6 (.o 7 (.s 8 (.s 9 (.w 11 (.o 12 .leaf))))))))))))) .done),by kernel_rfl,And.intro (⟨_,_,(FnOk.conv (.tup (.cons (FzR.frzA (tC _)) (.cons (.same _) (.same _)))) (a4d p0.W p1.K (by have qt:=hw.tl;(try have q:=bD.1 (nf ‹(!aO p1.K 0 2)=false›));(try have q2:=bD.1 ‹aO p1.K 0 4=true›);exact hw.wb))),(FzAs.same _),aB (m:=11) rfl (aB (m:=12) rfl (.inl ⟨⟨_,hb1⟩,[some 0,none,some 2,some 3,some 4,some 5,some 6,some 7,some 8,none,none,some 11,some 12],(by repeat' first|constructor|(simp;done))⟩))⟩) (aB (m:=10) rfl (⟨_,_,(FnOk.conv (.tup (.cons (FzR.frzA (tC _)) (.cons (.same _) (.same _)))) (a4d p0.W p1.K (by have qt:=hw.tl;(try have q:=bD.1 (nf ‹(!aO p1.K 0 2)=false›));(try have q2:=bD.1 ‹aO p1.K 0 4=true›);exact hw.wb))),(FzAs.same _),aB (m:=12) rfl (.inl ⟨⟨_,hb1⟩,[some 0,none,some 2,some 3,some 4,some 5,some 6,some 7,some 8,none,none,some 12,some 10],(by repeat' first|constructor|(simp;done))⟩)⟩))⟩)) (fun x1 hg=>aA (.inl (aV (Y:=List.map Timer.cells (p0.Due++(cV p0.W p1.K).2)) (by simp [bX,bP,-List.map_take,-List.map_drop,-List.drop_one,aQ,aR,bR,bS,bY bR,fH bS];done) (cS (b:=24) (hs:=by have a1:=hw.db.1;have a2:=hw.q.1;have a3:=hw.o.1;have a4:=hw.d.1;have a5:=hw.s.1;(try have a7:=(uA hw.wb (bD.1 (nf ‹(!aO p1.K 1 20)=false›)).2).2);have a8:=tJ hw.wb;refine ⟨?_,?_⟩;(show List.length _*24≤_);(try simp only [LN]);omega;(try simp only [LN]);omega) ?_)))))) (fun hg h10=>aA (bO hown hg))⟩⟩))
   exact aB (m:=13) rfl (aA (aA (bO hown hg)))
 · refine aA (brQ hg (fun hg h12=>?_) (fun hg h12=>?_))
   · refine aA (aA (kD (k:=(p0.Queue).length) (by simp) (fun hN13=>brQ hg (fun hg h14=>aA (bO hown hg)) (fun hg h14=>aA (.inr (.inl ⟨(.pre 0 (.pre 1 (.pre 5 (.seg 12 9 (.q 2 (.q 3 (.q 4 (.q 6 (.q 7 (.q 8 (.q 9 (.q 10 (.o 11 .leaf))))))))) (.tail 12))))),by kernel_rfl,bK (by have qt:=hw.tl;(try have q:=bD.1 (nf ‹(!aO p1.K 0 2)=false›));(try have q2:=bD.1 ‹aO p1.K 0 4=true›);(simp only [List.length_map];omega)) (cZ (i:=0) (l:=p0.Queue) (by rfl) (fun hq15=>.inl (aB (m:=10) rfl (.inr (.inl (aV (Y:=List.map (Item.cells false) (p0.Out++[(p0.Queue[0]?.getD default)])) (by simp [bX,bP,-List.map_take,-List.map_drop,-List.drop_one,aQ,aR,mV,bY mV,iC xK];rfl) (cS (b:=72) (hs:=by have a1:=hw.db.1;have a2:=hw.q.1;have a3:=hw.o.1;have a4:=hw.d.1;have a5:=hw.s.1;(try have a7:=(uA hw.wb (bD.1 (nf ‹(!aO p1.K 1 20)=false›)).2).2);have a8:=tJ hw.wb;refine ⟨?_,?_⟩;(show List.length _*72≤_);(try simp only [LN]);omega;(try simp only [LN]);omega) ?_)))))))⟩))))))
     refine aB (m:=11) rfl (.inl (aB (m:=12) rfl (And.intro (by refine ⟨?_,?_,?_⟩ <;> (try simp only [List.length_map]) <;> omega) ?_)))
     refine .inr (.inl (aV (Y:=List.map (Item.cells false) (List.take ((p0.Queue).length - 1) (List.drop 1 p0.Queue))) (by simp [bX,bP,-List.map_take,-List.map_drop,-List.drop_one,aQ,aR,mV,bY mV,iC xK];done) (cS (b:=72) (hs:=by have a1:=hw.db.1;have a2:=hw.q.1;have a3:=hw.o.1;have a4:=hw.d.1;have a5:=hw.s.1;(try have a7:=(uA hw.wb (bD.1 (nf ‹(!aO p1.K 1 20)=false›)).2).2);have a8:=tJ hw.wb;refine ⟨?_,?_⟩;(show List.length _*72≤_);(try simp only [LN]);omega;(try simp only [LN]);omega) ?_)))
     exact aB (m:=13) rfl (aA (aA (bO hown hg)))
   · refine aA (brQ hg (fun hg h16=>aA (aA (brE hg (fun hg h17=>aA (bO hown hg)) (fun hg h17=>aA (aA (aA (.inr (.inl ⟨(.pre 0 (.pre 1 (.pre 5 (.seg 10 7 (.q 2 (.q 3 (.q 4 (.q 6 (.q 7 (.q 8 (.o 9 .leaf))))))) (.tail 10))))),by kernel_rfl,⟨_,_,vE p0.W (by have qt:=hw.tl;(try have q:=bD.1 (nf ‹(!aO p1.K 0 2)=false›));(try have q2:=bD.1 ‹aO p1.K 0 4=true›);exact dL (by omega) hw.wb),(FzAs.same _),aB (m:=11) rfl (.inl (aV (Y:=List.map Timer.cells (p0.Due++(aI p0.W))) (by simp [bX,bP,-List.map_take,-List.map_drop,-List.drop_one,aQ,aR,bR,bS,bY bR,fH bS];done) (cS (b:=24) (hs:=by have a1:=hw.db.1;have a2:=hw.q.1;have a3:=hw.o.1;have a4:=hw.d.1;have a5:=hw.s.1;(try have a7:=(uA hw.wb (bD.1 (nf ‹(!aO p1.K 1 20)=false›)).2).2);have a8:=tJ hw.wb;refine ⟨?_,?_⟩;(show List.length _*24≤_);(try simp only [LN]);omega;(try simp only [LN]);omega) ?_)))⟩⟩)))))))) (fun hg h16=>aA (bO hown hg)))
     refine aB (m:=12) rfl (aA (.inl (⟨_,_,(FnOk.conv (.one (FzR.frzA (tC _)) (fun _ h=>by cases h) (fun _ h=>by cases h)) (sI)),(FzAs.same _),aB (m:=14) rfl (aB (m:=14) rfl (aA (aA (.inr (.inl ⟨(.pre 0 (.pre 1 (.pre 5 (.pre 6 (.pre 10 (.pre 14 (.seg 20 14 (.q 2 (.q 3 (.q 4 (.q 7 (.q 8 (.q 9 (.q 11 (.q 12 (.q 13 (.q 15 (.q 16 (.q 17 (.q 18 (.o 19 .leaf)))))))))))))) (.tail 20)))))))),by kernel_rfl,.inl (aB (m:=15) rfl (.inr (.inr (.inl (aV (Y:=List.map (Deed.cells false) (p0.Deeds++[(Deed.mk 4 0 (Span.mk 0 0 0 0 false ([]:List Attr)) 0 0 0 false false 0 0 0 p0.W.Now p0.Time p0.Time p0.Time)])) (by simp [bX,bP,-List.map_take,-List.map_drop,-List.drop_one,aQ,aR,rJ,bY rJ,iC a3i,bE xT];rfl) (cS (b:=168) (hs:=by have a1:=hw.db.1;have a2:=hw.q.1;have a3:=hw.o.1;have a4:=hw.d.1;have a5:=hw.s.1;(try have a7:=(uA hw.wb (bD.1 (nf ‹(!aO p1.K 1 20)=false›)).2).2);have a8:=tJ hw.wb;refine ⟨?_,?_⟩;(show List.length _*168≤_);(try simp only [LN]);omega;(try simp only [LN]);omega) ?_))))))⟩)))))⟩)))
     exact aB (m:=16) rfl (aA (aA (bO hown hg)))
theorem b9k {n m:Nat} {w:World} {e:Event} (h:WI n w) (hs:Span.bd 1000 e.S) (hm:n+5000≤m) (hx:m≤890000):WI m (gR w e).2:=by
 have h':WI m w:=h.mono (by omega)
 show WR m (gR w e)
 unfold gR
 refine aH (P:=WR m) (fun _=>aH (P:=WR m) (fun _=>h') (fun _=>aH (P:=WR m) (fun _=>h') (fun _=>?_))) (fun _=>aH (P:=WR m) (fun _=>aH (P:=WR m) (fun _=>?_) (fun _=>h')) (fun _=>aH (P:=WR m) (fun _=>aH (P:=WR m) (fun _=>h') (fun q=>aH (P:=WR m) (fun _=>h') (fun _=>?_))) (fun _=>aH (P:=WR m) (fun _=>aH (P:=WR m) (fun _=>h') (fun _=>?_)) (fun _=>aH (P:=WR m) (fun _=>aH (P:=WR m) (fun _=>h') (fun _=>?_)) (fun _=>h')))))
 · have hd:=c2c (m:=m) (k:=e.K) h (by omega) (nM (by omega) _ hs)
   exact hd.mix h' h' h' h' h'
 · have hd:=c8t (m:=m) (k:=e.K) h (by omega) hx
   exact hd.mix hd hd hd hd h'
 · have ha:=uA h.wb (bD.1 (nf q)).2
   exact ((h'.ww ha.1).ds (by have:=h.d.1;rw [List.length_append];omega)).free
 · have hq:bdS Item.bd n (List.take (w.Queue.length - 1) (List.drop 1 w.Queue)):=bdS.take (bdS.drop h.q 1) _
   exact ((h'.qs (bdS.mono hq (by omega) (nN (by omega)))).os (a8k h.o (by omega) (nN (by omega)) (nN (n:=n) (by omega) _ (iM h.q fN 0)))).free
 · have ht:=tJ h.wb
   have hz:WI (n+4900) { w with W:={ bT with Now:=w.W.Now },Due:=w.Due++aI w.W }:=((h.mono (m:=n+4900) (by omega)).ww (x:={ bT with Now:=w.W.Now }) a8q).ds (by have:=h.d.1;rw [List.length_append];omega)
   exact (hz.da (m:=m) (by omega) (by exact fN)).free
def tM (s1:Cur×World×(List Event)×Int):Step (Cur×World×(List Event)×Int) (World×(List Event)×World×Cur) :=
 (bif (decide (s1.2.2.2 > 0)) then (bif (decide ((((s1.2.2.1).length:Nat):Int) < 150)) then (aZ (gH s1.1 s1.2.1) fun (v3:(Event×Cur))=>(aZ (gR (iH s1.2.1) v3.1) fun (v4:(Bool×World))=>(bif v4.1 then (.next (v3.2,v4.2,(s1.2.2.1++[v3.1]),(IntKind.i64.wrap (s1.2.2.2 - 1)))) else (.next (v3.2,s1.2.1,(s1.2.2.1++[v3.1]),(IntKind.i64.wrap (s1.2.2.2 - 1))))))) else (.stop (s1.1,s1.2.1,s1.2.2.1,s1.2.2.2))) else (.stop (s1.1,s1.2.1,s1.2.2.1,s1.2.2.2)))
def lW (p0:Cur) (p1:Int):(World×(List Event)×World×Cur) :=
 (aZ (eZ p0) fun (v1:(Conf×Cur))=>(aZ (aG v1.2 p1) fun (v2:(Int×Cur))=>(Fin.get (fun s1=>((bF v1.1),s1.2.2.1,s1.2.1,s1.1)) (eP tM ((fun s:Cur×World×List Event×Int=>s.2.2.2.toNat) (v2.2,(iH (bF v1.1)),([]:List Event),(IntKind.i64.wrap (10+v2.1)))) (v2.2,(iH (bF v1.1)),([]:List Event),(IntKind.i64.wrap (10+v2.1)))))))
theorem b6z (p0:Cur) (p1:Int) (hs:CurOk p0) (hp:0 < p1∧p1≤200):FnOk prog 46 [.tup [.one (.b ((Cur.cells false) p0))],.one (.v (.int .i64 p1))] ⟨.tup [.agg ((World.cells false) (lW p0 p1).1),.one (.s false 8 (List.map (Event.cells false) (lW p0 p1).2.1)),.agg ((World.cells false) (lW p0 p1).2.2.1)],[.one (.b ((Cur.cells false) (lW p0 p1).2.2.2))],[],true⟩:=by
 refine FnOk.introV (E:=env) aK aS func46 rfl (by kernel_rfl) rfl ?_
 have hg:=lW.eq_1 p0 p1
 have hown:(true=false→∀g:(World×(List Event)×World×Cur),AV.Own (AV.tup [.agg ((World.cells false) g.1),.one (.s false 8 (List.map (Event.cells false) g.2.1)),.agg ((World.cells false) g.2.2.1)]))∧(fun g:(World×(List Event)×World×Cur)=>(Cur.cells false) g.2.2.2)=_∧(fun g:(World×(List Event)×World×Cur)=>AV.tup [.agg ((World.cells false) g.1),.one (.s false 8 (List.map (Event.cells false) g.2.1)),.agg ((World.cells false) g.2.2.1)])=_:=⟨(fun h=>by cases h),rfl,rfl⟩
 refine aA (aB (m:=2) rfl (aB (m:=3) rfl (aA (.inl (aB (m:=4) rfl (aA (.inr ⟨0,[],fun us1 hu1=>⟨_,(.same _),_,_,_,_,_,b4m p0 (by exact hs),(FzAs.same _),(.same _),trivial,(Conf×Cur),(eZ p0),(fun g=>(Cur.cells false) g.2),(fun g=>.agg ((Conf.cells true) g.1)),rfl,rfl,fun v1 hvv1=>aB (m:=6) rfl (have hz2:=okE hvv1 (b1n (by assumption));have hcf:=c4m hvv1 (by assumption);aB (m:=6) rfl (have hg:=bG hvv1 hg;.inl (⟨_,_,(FnOk.conv (.one (FzR.frzA (b6d _)) (fun _ h=>by cases h) (fun _ h=>by cases h)) (b2k v1.1 (by exact hcf.2))),(.cons (.agg (.cons (.same _) (.cons (.same _) (.cons (.same _) (.cons (.same _) (.cons (.same _) (.cons (.same _) (.cons (.same _) (.cons (.same _) (.cons (.same _) (.cons (.same _) (.cons (.same _) (.cons (.sl _ _ _ _ (bE a3u _)) .nil))))))))))))) (.same _)),aB (m:=8) rfl (aB (m:=8) rfl (aA (.inl (⟨_,_,(FnOk.conv (.one (FzR.frzA (b6d _)) (fun _ h=>by cases h) (fun _ h=>by cases h)) (a3z (bF v1.1) (by exact (a2p hcf.1 hcf.2).world (by omega) (by omega)))),(FzAs.same _),aB (m:=10) rfl (aB (m:=10) rfl (aA (aA (.inr ⟨0,[],fun us3 hu3=>⟨_,(.same _),_,_,_,_,_,dB v1.2 p1 (by assumption),(FzAs.same _),(.same _),trivial,(Int×Cur),(aG v1.2 p1),(fun g=>(Cur.cells false) g.2),(fun g=>.one (.v (.int .i64 g.1))),rfl,rfl,fun v2 hvv2=>aB (m:=12) rfl (have hz4:=okE hvv2 (bI (by assumption));have hlB:=fS hvv2;aB (m:=12) rfl (have hg:=bG hvv2 hg;a6s (m:=(fun s:Cur×World×List Event×Int=>s.2.2.2.toNat)) (s0:=(v2.2,(iH (bF v1.1)),([]:List Event),(IntKind.i64.wrap (10+v2.1)))) (fun s:Cur×World×List Event×Int=>CurOk s.1∧WI (1000+5000*s.2.2.1.length) s.2.1∧s.2.2.1.length≤150∧0≤s.2.2.2∧s.2.2.2≤300) hg (by have q:=hlB (by omega) (by omega);exact ⟨by assumption,by rw [tV];exact a2p hcf.1 hcf.2,Nat.zero_le _,by ((simp (disch:=omega) only [wrap_small,eS,eY,fP,fO,List.length_map,List.length_set] <;> omega)),by ((simp (disch:=omega) only [wrap_small,eS,eY,fP,fO,List.length_map,List.length_set] <;> omega))⟩) [0,4,6,8,9] (fun x1=>[(7,.one (.n 4 [] 1 0 (x1.s.2.2.1).length)),(10,.one (.v (.int .i64 x1.s.2.2.2)))]) (fun x1=>[.new ⟨3,true,[[.s false 1 (List.map cU8 x1.s.1.f_b),.v (.int .i64 x1.s.1.f_i),.v (.int .i64 x1.s.1.f_h)]],0⟩,.dead,.keep 2,.keep 3,.new ⟨8,false,List.map (Event.cells false) x1.s.2.2.1,0⟩,.dead,.dead,.dead,.keep 8,.dead,.new ⟨32,true,[[.v (.int .i64 x1.s.2.1.C.Stripes),.v (.int .i64 x1.s.2.1.C.Wait),.v (.int .i64 x1.s.2.1.C.Budget),.v (.int .i64 x1.s.2.1.C.Cache),.v (.int .i64 x1.s.2.1.C.Queue),.v (.int .i64 x1.s.2.1.C.Rate),.v (.int .i64 x1.s.2.1.C.Burst),.v (.int .i64 x1.s.2.1.C.Rule.Kind),.v (.int .i64 x1.s.2.1.C.Rule.N),.v (.string x1.s.2.1.C.Rule.Key),.v (.string x1.s.2.1.C.Rule.Text),.s false 5 (List.map (Pol.cells false) x1.s.2.1.C.Rule.L),.v (.int .i64 x1.s.2.1.Time),.v (.bool x1.s.2.1.Shut),.s false 2 (List.map (Stripe.cells false) x1.s.2.1.St),.v (.int .i64 x1.s.2.1.RuleHeld),.v (.int .i64 x1.s.2.1.B.Rate),.v (.int .i64 x1.s.2.1.B.Burst),.v (.int .i64 x1.s.2.1.B.Tokens),.v (.int .i64 x1.s.2.1.B.At),.s false 3 (List.map Verdict.cells x1.s.2.1.Cache),.v (.int .i64 x1.s.2.1.Used),.v (.int .i64 x1.s.2.1.W.Now),.s false 1 (List.map (cSl false 3 Timer.cells) x1.s.2.1.W.Near),.s false 1 (List.map (cSl false 3 Timer.cells) x1.s.2.1.W.Far),.s false 3 (List.map Timer.cells x1.s.2.1.W.Rest),.s false 3 (List.map Timer.cells x1.s.2.1.Due),.s false 7 (List.map (Item.cells false) x1.s.2.1.Queue),.s false 7 (List.map (Item.cells false) x1.s.2.1.Out),.s false 12 (List.map (Task.cells false) x1.s.2.1.Tasks),.s false 20 (List.map (Deed.cells false) x1.s.2.1.Deeds),.v (.int .i64 x1.s.2.1.Next)]],0⟩,.dead]) [some 0,none,some 2,some 3,some 4,none,none,none,some 8,none,some 10,none] ((by repeat' constructor)) (fun x1=>?_)))⟩⟩))))⟩))))⟩)))⟩⟩)))))))
 have hI1:=x1.hI
 try dsimp only at hI1
 refine have hb1:=x1.bdy.trans (tM.eq_1 ..);aA (aA (brD hb1 (fun hb1 h5=>kD (k:=(x1.s.2.2.1).length) (by simp) (fun hN6=>brD hb1 (fun hb1 h7=>aA (aA (.inr ⟨0,[],fun us8 hu8=>⟨_,(.same _),_,_,_,_,_,b4c x1.s.1 x1.s.2.1 (by exact hI1.1) (by exact hI1.2.1.tl),(FzAs.same _),(.same _),trivial,(Event×Cur),(gH x1.s.1 x1.s.2.1),(fun g=>(Cur.cells false) g.2),(fun g=>.agg ((Event.cells false) g.1)),rfl,rfl,fun v3 hvv3=>aB (m:=13) rfl (have hz9:=okE hvv3 (b1l (by exact hI1.1));aB (m:=13) rfl (have hb1:=bG hvv3 hb1;aB (m:=13) rfl (aA (.inl (aB (m:=14) rfl (.inr (.inl (aV (Y:=List.map (Event.cells false) (x1.s.2.2.1++[v3.1])) (by simp [bX,bP,-List.map_take,-List.map_drop,-List.drop_one,aQ,aR,b9r,bY b9r,iC c8a];rfl) (cS (b:=80) (hs:=by have q1:=hI1.2.2.1;refine ⟨?_,?_⟩;(show List.length _*80≤_);(try simp only [LN]);omega;(try simp only [LN]);omega) ?_)))))))))⟩⟩))) (fun hb1 h7=>have hg:=bZ hg (x1.outS hb1);aA (.inr (.inr ⟨(.q 1 (.z 0 (.z 2 (.m 3 [2] (.m 4 [2] (.m 5 [] .leaf)))))),by kernel_rfl,And.intro (And.intro (⟨rfl,rfl⟩) trivial) (And.intro (And.intro (⟨rfl,rfl⟩) trivial) (And.intro trivial (nG hown hg (by rfl) (.tup (.cons (.same _) (.cons (.one (.sl _ _ _ _ (bE b6e _))) (.cons (.same _) (.same _))))))))⟩))))) (fun hb1 h5=>have hg:=bZ hg (x1.outS hb1);aA (.inr (.inr ⟨(.q 1 (.z 0 (.z 2 (.m 3 [2] (.m 4 [2] (.m 5 [] .leaf)))))),by kernel_rfl,And.intro (And.intro (⟨rfl,rfl⟩) trivial) (And.intro (And.intro (⟨rfl,rfl⟩) trivial) (And.intro trivial (nG hown hg (by rfl) (.tup (.cons (.same _) (.cons (.one (.sl _ _ _ _ (bE b6e _))) (.cons (.same _) (.same _))))))))⟩)))))
 exact aB (m:=15) rfl (aA (.inl (⟨_,_,(FnOk.conv (.one (.agg (World.cvo _)) (fun _ h=>by cases h) (fun _ h=>by cases h)) (a3z x1.s.2.1 (by exact hI1.2.1.world (by have:=hI1.2.2.1;omega) (by omega)))),(FzAs.same _),aB (m:=17) rfl (aB (m:=24) rfl (aA (.inr ⟨0,[],fun us10 hu10=>⟨_,(.same _),_,_,_,_,_,c0r (iH x1.s.2.1) v3.1 (by rw [tV];exact hI1.2.1.mono (by have:=hI1.2.2.1;omega)) (by rw [hvv3];exact zY hI1.1),(FzAs.same _),(.cons (.same _) (.cons (.same _) (.cons (.same _) (.cons (.same _) (.cons (.same _) (.cons (.same _) (.cons (.same _) (.cons (.same _) (.cons (.same _) (.cons (.same _) (.cons (.same _) (.cons (.same _) (.cons (.same _) (.cons (.same _) (.cons (.sl _ _ _ _ (bE a0b _)) (.cons (.same _) (.cons (.same _) (.cons (.same _) (.cons (.same _) (.cons (.same _) (.cons (.sl _ _ _ _ (bE a8x _)) (.cons (.same _) (.cons (.same _) (.cons (.same _) (.cons (.same _) (.cons (.same _) (.cons (.sl _ _ _ _ (bE gD _)) (.cons (.sl _ _ _ _ (bE jI _)) (.cons (.sl _ _ _ _ (bE jI _)) (.cons (.sl _ _ _ _ (bE a9t _)) (.cons (.sl _ _ _ _ (bE xT _)) (.same _)))))))))))))))))))))))))))))))),trivial,(Bool×World),(gR (iH x1.s.2.1) v3.1),(fun g=>(World.cells false) g.2),(fun g=>.one (.v (.bool g.1))),rfl,rfl,fun v4 hvv4=>aB (m:=26) rfl (aB (m:=26) rfl (have hb1:=bG hvv4 hb1;brE hb1 (fun hb1 h11=>x1.goE hb1 (show (fun s:Cur×World×List Event×Int=>CurOk s.1∧WI (1000+5000*s.2.2.1.length) s.2.1∧s.2.2.1.length≤150∧0≤s.2.2.2∧s.2.2.2≤300) (v3.2,v4.2,(x1.s.2.2.1++[v3.1]),(IntKind.i64.wrap (x1.s.2.2.2 - 1)))∧(fun s:Cur×World×List Event×Int=>s.2.2.2.toNat) (v3.2,v4.2,(x1.s.2.2.1++[v3.1]),(IntKind.i64.wrap (x1.s.2.2.2 - 1))) < (fun s:Cur×World×List Event×Int=>s.2.2.2.toNat) x1.s by have hE:=zY (w:=x1.s.2.1) hI1.1;have f2:=hI1.2.2;refine ⟨⟨by assumption,?_,by rw [jP];omega,by ((simp (disch:=omega) only [wrap_small,eS,eY,fP,fO,List.length_map,List.length_set] <;> omega)),by ((simp (disch:=omega) only [wrap_small,eS,eY,fP,fO,List.length_map,List.length_set] <;> omega))⟩,by ((simp (disch:=omega) only [wrap_small,eS,eY,fP,fO,List.length_map,List.length_set] <;> omega))⟩;(rw [hvv4,tV,hvv3,jP];exact b9k hI1.2.1 hE (by omega) (by omega))) [some 0,none,some 2,some 3,some 15,none,none,none,some 8,none,some 10,none] (by repeat' first|constructor|(simp [LstSt.init,LstSt.step,LstInv.init,CntSt.init,CntSt.step,CntInv.init,WhlSt.init,WhlSt.step];done))) (fun hb1 h11=>x1.goE hb1 (show (fun s:Cur×World×List Event×Int=>CurOk s.1∧WI (1000+5000*s.2.2.1.length) s.2.1∧s.2.2.1.length≤150∧0≤s.2.2.2∧s.2.2.2≤300) (v3.2,x1.s.2.1,(x1.s.2.2.1++[v3.1]),(IntKind.i64.wrap (x1.s.2.2.2 - 1)))∧(fun s:Cur×World×List Event×Int=>s.2.2.2.toNat) (v3.2,x1.s.2.1,(x1.s.2.2.1++[v3.1]),(IntKind.i64.wrap (x1.s.2.2.2 - 1))) < (fun s:Cur×World×List Event×Int=>s.2.2.2.toNat) x1.s by have hE:=zY (w:=x1.s.2.1) hI1.1;have f2:=hI1.2.2;refine ⟨⟨by assumption,?_,by rw [jP];omega,by ((simp (disch:=omega) only [wrap_small,eS,eY,fP,fO,List.length_map,List.length_set] <;> omega)),by ((simp (disch:=omega) only [wrap_small,eS,eY,fP,fO,List.length_map,List.length_set] <;> omega))⟩,by ((simp (disch:=omega) only [wrap_small,eS,eY,fP,fO,List.length_map,List.length_set] <;> omega))⟩;exact hI1.2.1.mono (by rw [jP];omega)) [some 0,none,some 2,some 3,some 15,none,none,none,some 8,none,some 10,none] (by repeat' first|constructor|(simp [LstSt.init,LstSt.step,LstInv.init,CntSt.init,CntSt.step,CntInv.init,WhlSt.init,WhlSt.step];done)))))⟩⟩)))⟩)))
def iG (p0:Cur) (p1:Int):(World×Cur) :=
 (aZ (lW p0 p1) fun (v1:(World×(List Event)×World×Cur))=>(v1.2.2.1,v1.2.2.2))
theorem b2h (p0:Cur) (p1:Int) (hs:CurOk p0) (hp:0 < p1∧p1≤200):FnOk prog 23 [.tup [.one (.b ((Cur.cells false) p0))],.one (.v (.int .i64 p1))] ⟨.agg ((World.cells false) (iG p0 p1).1),[.one (.b ((Cur.cells false) (iG p0 p1).2))],[],true⟩:=by
 refine FnOk.introV (E:=env) aK aS func23 rfl (by kernel_rfl) rfl ?_
 have hg:=iG.eq_1 p0 p1
 have hown:(true=false→∀g:(World×Cur),AV.Own (AV.agg ((World.cells false) g.1)))∧(fun g:(World×Cur)=>(Cur.cells false) g.2)=_∧(fun g:(World×Cur)=>AV.agg ((World.cells false) g.1))=_:=⟨(fun h=>by cases h),rfl,rfl⟩
 exact aA (aB (m:=2) rfl (aA (.inr ⟨0,[],fun us1 hu1=>⟨_,(.same _),_,_,_,_,_,b6z p0 p1 (by exact hs) (by exact hp),(FzAs.same _),(.same _),trivial,(World×(List Event)×World×Cur),(lW p0 p1),(fun g=>(Cur.cells false) g.2.2.2),(fun g=>.tup [.agg ((World.cells false) g.1),.one (.s false 8 (List.map (Event.cells false) g.2.1)),.agg ((World.cells false) g.2.2.1)]),rfl,rfl,fun v1 hvv1=>aB (m:=4) rfl (aB (m:=4) rfl (have hg:=bG hvv1 hg;aB (m:=4) rfl (aB (m:=5) rfl (aA (bO hown hg)))))⟩⟩)))
def aW (p0:(List Int)):World :=
 (aZ (iG (qK p0) (IntKind.i64.wrap (40+(kQ p0 90)))) fun (v1:(World×Cur))=>v1.1)
theorem b0d (p0:(List Int)) (hl:p0.length≤4611686018427387904):FnOk prog 8 [.one (.s false 1 (List.map cU8 p0))] ⟨.agg ((World.cells false) (aW p0)),[],[],true⟩:=by
 refine FnOk.intro (E:=env) aK aS func8 rfl (by kernel_rfl) rfl rfl ?_
 have hg:=aW.eq_1 p0
 have hown:(fun g:World=>AV.agg ((World.cells false) g))=_:=rfl
 exact aA (aB (m:=0) rfl (aA (.inl (⟨_,_,c0t p0,(FzAs.same _),aB (m:=2) rfl (aA (.inl (⟨_,_,b7a p0 90,(FzAs.same _),aB (m:=4) rfl (.inr ⟨0,[],fun us1 hu1=>⟨_,(.same _),_,_,_,_,_,b2h (qK p0) (IntKind.i64.wrap (40+(kQ p0 90))) (by exact b8y hl) (by exact b5z hl),(FzAs.same _),(.same _),trivial,(World×Cur),(iG (qK p0) (IntKind.i64.wrap (40+(kQ p0 90)))),(fun g=>(Cur.cells false) g.2),(fun g=>.agg ((World.cells false) g.1)),rfl,rfl,fun v1 hvv1=>aB (m:=5) rfl (aB (m:=5) rfl (have hg:=bG hvv1 hg;d7m hown hg))⟩⟩)⟩)))⟩))))
def jC (d:Deed):Int:=bif d.Lin==(-1) then 0 else bif d.Op==1 then (bif d.Code==1 then 1 else bif d.Code==2 then 1 else 0) else bif d.Op==3 then -d.N else bif d.Op==2 then (bif d.Void then 0 else bif d.Keep then 0 else -d.N) else 0
def hnT (t:Task):Int:=((t.Hand.length:Nat):Int)
def spT (t:Trail):Int:=((t.Spans.length:Nat):Int)
def spS (s:Stripe):Int:=aY spT s.L
theorem mY {α:Type} [Inhabited α] {f:α→Int} {x:α}:∀{l:List α} {k:Nat},k < l.length→aY f (l.set k x)=aY f l - f (l[k]?.getD default)+f x
 | a :: l,0,_=>by show f x+aY f l=f a+aY f l - f a+f x;omega
 | a :: l,k+1,h=>by
   show f a+aY f (l.set k x)=f a+aY f l - f (l[k]?.getD default)+f x
   have:=mY (f:=f) (x:=x) (l:=l) (k:=k) (Nat.lt_of_succ_lt_succ h)
   omega
theorem yQ {α:Type} [Inhabited α] {f:α→Int} {x:α} {l:List α} {k:Nat} (h:f x=f (l[k]?.getD default)):aY f (l.set k x)=aY f l:=by
 by_cases hk:k < l.length
 · rw [mY hk];omega
 · rw [List.set_eq_of_length_le (by omega)]
theorem a9q {α:Type} {f:α→Int} {l:List α} {x:α}:aY f (l++[x])=aY f l+f x:=by rw [uM];show _+(f x+0)=_;omega
theorem b9m {α:Type} {f:α→Int} (l:List α) (k:Nat):aY f (l.take k)+aY f (l.drop k)=aY f l:=by rw [←uM,List.take_append_drop]
theorem dT {α:Type} [Inhabited α] {l:List α} {i k:Nat} {x:α}:(l.set i x)[k]?.getD default=if i=k∧i < l.length then x else l[k]?.getD default:=by
 by_cases h:i=k
 · subst h
   by_cases hi:i < l.length
   · simp [hi]
   · rw [List.set_eq_of_length_le (by omega),if_neg (fun h=>hi h.2)]
 · rw [List.getElem?_set_ne h,if_neg (fun hh=>h hh.1)]
theorem b9p {α:Type} [Inhabited α] {l:List α} {k:Nat} {x:α} (h:k < l.length):(l++[x])[k]?.getD default=l[k]?.getD default:=by rw [List.getElem?_append_left h]
theorem yT {α:Type} [Inhabited α] {l:List α} {x:α}:(l++[x])[l.length]?.getD default=x:=by simp
structure TD (D:List Deed) (k:Nat) (t:Task):Prop where
 own:t.Op=1∨t.Op=2→0≤t.H∧t.H.toNat < D.length∧(D[t.H.toNat]?.getD default).Task=(k:Int)∧(D[t.H.toNat]?.getD default).Op=t.Op∧(t.Op=1∨t.Pc=0∨t.Pc=1∨t.Pc=2→(D[t.H.toNat]?.getD default).Lin=-1)
 hand:t.Hand≠[]→t.Op=2∧¬(t.Pc=0∨t.Pc=1∨t.Pc=2)
structure DD (d:Deed):Prop where
 vo:d.Op=2→d.Lin=-1→d.Void=false
 fg:d.Forgot≠0→d.Op=3∨(d.Op=2∧d.Lin≠-1∧d.Void=false)
structure CB (n:Nat) (e:Int) (w:World):Prop where
 bal:aY jC w.Deeds+e=((w.Out.length:Nat):Int)+((w.Queue.length:Nat):Int)+aY hnT w.Tasks+aY spS w.St
 tm:0≤w.Time∧w.Time≤(n:Int)
 tl:w.Tasks.length=5
 tk:∀k,k < 5→TD w.Deeds k (w.Tasks[k]?.getD default)
 dd:∀d∈w.Deeds,DD d
theorem TD.app {D:List Deed} {k:Nat} {t:Task} {d:Deed} (h:TD D k t):TD (D++[d]) k t :=
 ⟨fun ho=>by
   obtain ⟨h1,h2,h3,h4,h5⟩:=h.own ho
   rw [b9p h2]
   exact ⟨h1,by rw [jP];omega,h3,h4,h5⟩,h.hand⟩
theorem TD.set {D:List Deed} {k j:Nat} {t:Task} {d:Deed} {i:Nat} (h:TD D k t) (hi:(D[i]?.getD default).Task=(j:Int)) (hk:k≠j):TD (D.set i d) k t :=
 ⟨fun ho=>by
   obtain ⟨h1,h2,h3,h4,h5⟩:=h.own ho
   have hn:¬i=t.H.toNat:=by
    intro e
    rw [e,h3] at hi
    omega
   rw [dT,if_neg (fun hh=>hn hh.1)]
   exact ⟨h1,by rw [List.length_set];exact h2,h3,h4,h5⟩,h.hand⟩
theorem a6g {D:List Deed} {T:List Task} {j:Nat} {x:Task} (h:∀k,k < 5→k≠j→TD D k (T[k]?.getD default)) (hx:j < 5→TD D j x) (hT:T.length=5):∀k,k < 5→TD D k ((T.set j x)[k]?.getD default):=by
 intro k hk
 rw [dT]
 by_cases hj:j=k∧j < T.length
 · rw [if_pos hj];obtain ⟨rfl,_⟩:=hj;exact hx hk
 · rw [if_neg hj];exact h k hk (fun e=>hj ⟨e.symm,by omega⟩)
theorem c0f {D:List Deed} {i:Nat} {x:Deed} (h:∀d∈D,DD d) (hx:DD x):∀d∈D.set i x,DD d:=a0k h hx
theorem d6z {D:List Deed} {x:Deed} (h:∀d∈D,DD d) (hx:DD x):∀d∈D++[x],DD d:=fun d hd=>by
 rcases List.mem_append.1 hd with hd | hd
 · exact h d hd
 · obtain rfl:=List.mem_singleton.1 hd;exact hx
def pM:Task:=Task.mk 0 0 (Span.mk 0 0 0 0 false ([]:List Attr)) 0 0 ([]:List Item) 0
theorem a7x {D:List Deed} {k:Nat}:TD D k pM:=by
 refine ⟨fun h=>?_,fun h=>absurd rfl h⟩
 rcases h with h | h <;> cases h
theorem CB.time {n:Nat} {e:Int} {w:World} (h:CB n e w) (hn:n≤1000000):IntKind.i64.wrap (w.Time+1)=w.Time+1:=Go.Ev.wrap_small (by have:=h.tm;omega) (by have:=h.tm;omega)
theorem CB.tick {n:Nat} {e:Int} {w:World} (h:CB n e w) (hn:n≤1000000) {c:Conf} {s:Bool} {r u x:Int} {b:Bucket} {q:List Verdict} {W:Wheel} {du:List Timer}:CB (n+1) e { w with C:=c,Time:=IntKind.i64.wrap (w.Time+1),Shut:=s,RuleHeld:=r,B:=b,Cache:=q,Used:=u,W:=W,Due:=du,Next:=x } :=
 { bal:=h.bal,tm:=by show 0≤IntKind.i64.wrap (w.Time+1)∧IntKind.i64.wrap (w.Time+1)≤((n+1:Nat):Int);rw [h.time hn];have:=h.tm;omega,tl:=h.tl,tk:=h.tk,dd:=h.dd }
theorem CB.free {n:Nat} {e:Int} {w:World} (h:CB n e w) {c:Conf} {s:Bool} {r u x:Int} {b:Bucket} {q:List Verdict} {W:Wheel} {du:List Timer}:CB n e { w with C:=c,Shut:=s,RuleHeld:=r,B:=b,Cache:=q,Used:=u,W:=W,Due:=du,Next:=x }:={ h with }
theorem CB.mono {n m:Nat} {e:Int} {w:World} (hm:n≤m) (h:CB n e w):CB m e w:={ h with tm:=by have:=h.tm;omega }
theorem CB.lock {n:Nat} {e:Int} {w:World} (h:CB n e w) {i:Nat} {a:Int}:CB n e { w with St:=w.St.set i (Stripe.mk a (w.St[i]?.getD default).L) } :=
 { h with bal:=by show _=_+aY spS (w.St.set i _);rw [yQ (f:=spS) (by rfl)];exact h.bal }
theorem CB.task {n:Nat} {e:Int} {w:World} (h:CB n e w) {j:Nat} {x:Task} (hd:x.Hand=(w.Tasks[j]?.getD default).Hand) (hx:j < 5→TD w.Deeds j x):CB n e { w with Tasks:=w.Tasks.set j x } :=
 { h with
   bal:=by show _=_+aY hnT (w.Tasks.set j x)+_;rw [yQ (f:=hnT) (by unfold hnT;rw [hd])];exact h.bal
   tl:=(List.length_set ..).trans h.tl
   tk:=a6g (fun k hk _=>h.tk k hk) hx h.tl }
theorem CB.pc {n:Nat} {e:Int} {w:World} (h:CB n e w) {j:Nat} {x:Task} (ho:x.Op=(w.Tasks[j]?.getD default).Op) (hH:x.H=(w.Tasks[j]?.getD default).H) (hd:x.Hand=(w.Tasks[j]?.getD default).Hand) (hp:x.Op=1∨(x.Hand=[]∧((w.Tasks[j]?.getD default).Pc=0∨(w.Tasks[j]?.getD default).Pc=1∨(w.Tasks[j]?.getD default).Pc=2))):CB n e { w with Tasks:=w.Tasks.set j x } :=
 h.task hd fun hj=>by
  have ht:=h.tk j hj
  refine ⟨fun hx=>?_,fun hh=>?_⟩
  · obtain ⟨h1,h2,h3,h4,h5⟩:=ht.own (by rw [←ho];exact hx)
    rw [hH]
    refine ⟨h1,h2,h3,by rw [ho];exact h4,fun _=>h5 ?_⟩
    rcases hp with hp | ⟨_,hp⟩
    · exact .inl (by rw [←ho];exact hp)
    · exact .inr hp
  · rcases hp with hp | ⟨hp,_⟩
    · have:=(ht.hand (by rw [←hd];exact hh)).1
      rw [←ho,hp] at this;cases this
    · exact absurd hp hh
theorem c6r {n:Nat} {e:Int} {w:World} {k c s:Int} (h:CB n e w) (hk:k.toNat < 5) (ho:(w.Tasks[k.toNat]?.getD default).Op=1) (hc:e=bif c==1 then 1 else bif c==2 then 1 else 0):CB n 0 (fT w k c s):=by
 have ht:=h.tk _ hk
 obtain ⟨h1,h2,h3,h4,h5⟩:=ht.own (.inl ho)
 have h5:=h5 (.inl ho)
 have hh:(w.Tasks[k.toNat]?.getD default).Hand=[]:=by
  by_cases hh:(w.Tasks[k.toNat]?.getD default).Hand=[]
  · exact hh
  · have:=(ht.hand hh).1;rw [ho] at this;cases this
 rw [ho] at h4
 have hb:=h.bal
 have htm:=h.tm
 unfold fT
 refine ⟨?_,h.tm,(List.length_set ..).trans h.tl,?_,?_⟩
 · show aY jC (w.Deeds.set _ _)+0=_+_+aY hnT (w.Tasks.set _ _)+aY spS (w.St.set _ _)
   rw [mY h2,mY (by rw [h.tl];exact hk),yQ (f:=spS) (by rfl)]
   have e1:jC (w.Deeds[(w.Tasks[k.toNat]?.getD default).H.toNat]?.getD default)=0:=by unfold jC;rw [h5];rfl
   have e2:hnT (w.Tasks[k.toNat]?.getD default)=0:=by unfold hnT;rw [hh];rfl
   have e3:jC { (w.Deeds[(w.Tasks[k.toNat]?.getD default).H.toNat]?.getD default) with Stamp:=s,Code:=c,Now:=w.W.Now,Lin:=w.Time,Res:=w.Time }=e:=by
    have q:(w.Time==(-1))=false:=by simp;omega
    unfold jC
    simp only [q,cond_false,h4,hc]
    rfl
   rw [e1,e2,e3]
   have e4:hnT (Task.mk 0 0 (Span.mk 0 0 0 0 false ([]:List Attr)) 0 0 ([]:List Item) 0)=0:=rfl
   rw [e4]
   show aY jC w.Deeds - 0+e+0=((w.Out.length:Nat):Int)+((w.Queue.length:Nat):Int)+(aY hnT w.Tasks - 0+0)+aY spS w.St
   omega
 · exact a6g (fun j hj hn=>(h.tk j hj).set h3 hn) (fun _=>a7x) h.tl
 · refine c0f h.dd ⟨fun hq=>?_,fun hq=>?_⟩
   · have hq:(w.Deeds[(w.Tasks[k.toNat]?.getD default).H.toNat]?.getD default).Op=2:=hq
     rw [h4] at hq;cases hq
   · have hm:=h.dd _ (oF h2)
     rcases hm.fg hq with q | q
     · rw [h4] at q;cases q
     · rw [h4] at q;cases q.1
theorem b0u {l:List Trail} {k:Int} (h:0≤aL l k):(aL l k).toNat < l.length∧(l[(aL l k).toNat]?.getD default).Id=k:=by
 have key:(0≤aL l k→(aL l k).toNat < l.length∧(l[(aL l k).toNat]?.getD default).Id=k):=by
  unfold aL
  refine lF (P:=fun _=>True) (Q:=fun v:Int=>0≤v→v.toNat < l.length∧(l[v.toNat]?.getD default).Id=k) (nK (P:=fun _ _=>True) trivial (fun i s hi _=>?_) (fun _ _=>trivial)) (fun _ _ hh=>absurd hh (by decide))
  unfold kS
  have e:((i:Nat):Int).toNat=i:=Int.toNat_natCast i
  cases hb:(l[i].Id==k) with
  | true=>exact fV (fun _=>by rw [e];exact ⟨hi,by rw [List.getElem?_eq_getElem hi];exact by simpa using hb⟩)
  | false=>exact dD trivial
 exact key h
theorem tX {l:List Stripe} {k:Int} (h:(aC l k).2=true):∃i j:Nat,i=(aD k ((l.length:Nat):Int)).toNat∧(0≤aL (l[i]?.getD default).L k)∧j=(aL (l[i]?.getD default).L k).toNat∧j < (l[i]?.getD default).L.length∧(aC l k).1=((l[i]?.getD default).L[j]?.getD default)∧(aC l k).1.Id=k∧i < l.length:=by
 unfold aC at h ⊢
 generalize hi:(aD k ((l.length:Nat):Int)).toNat=i at h ⊢
 by_cases h0:(((l.length:Nat):Int)==0)=true
 · rw [h0,cond_true] at h;cases h
 · have h0:(((l.length:Nat):Int)==0)=false:=by simpa using h0
   rw [h0,cond_false] at h ⊢
   by_cases h1:aL (l[i]?.getD default).L k < 0
   · rw [decide_eq_true h1,cond_true] at h;cases h
   · have h1':decide (aL (l[i]?.getD default).L k < 0)=false:=decide_eq_false h1
     rw [h1',cond_false] at h ⊢
     have ht:=b0u (l:=(l[i]?.getD default).L) (k:=k) (by omega)
     rw [rS]
     refine ⟨i,(aL (l[i]?.getD default).L k).toNat,rfl,by omega,rfl,ht.1,rfl,ht.2,?_⟩
     by_cases hl:i < l.length
     · exact hl
     · have:l[i]?=none:=List.getElem?_eq_none (by omega)
       rw [this] at ht
       exact absurd ht.1 (Nat.not_lt_zero _)
theorem c9h {l:List Stripe} {k:Int} {n:Nat} (hb:bdS Stripe.bd n l) (hn:n≤1000000) (h:(aC l k).2=true):aY spS (cE l (aC l k).1.Id)=aY spS l - spT (aC l k).1:=by
 obtain ⟨i,j,hi,h0,hj,hjl,ht,hid,hil⟩:=tX h
 rw [hid]
 unfold cE
 rw [←hi,eO]
 have q0:(((l.length:Nat):Int)==0)=false:=by simp;intro e;subst e;exact absurd hil (Nat.not_lt_zero _)
 rw [q0,cond_false,decide_eq_true (show aL (l[i]?.getD default).L k≥0 from h0),cond_true]
 have hS:Stripe.bd n (l[i]?.getD default):=iM hb fN _
 have hl:(l[i]?.getD default).L.length≤n:=hS.1
 have hT:=bN (l:=(l[i]?.getD default).L) (k:=k)
 rw [Go.Ev.wrap_small (by omega) (by omega),mY hil,ht,←hj]
 have e1:(aL (l[i]?.getD default).L k+1).toNat=j+1:=by omega
 rw [e1]
 have e3:spS (l[i]?.getD default)=aY spT (l[i]?.getD default).L:=rfl
 generalize (l[i]?.getD default).L=L at *
 have e2:spS (Stripe.mk (l[i]?.getD default).Held (List.take (j - 0) (List.drop 0 L)++List.take (L.length - (j+1)) (List.drop (j+1) L)))=aY spT L - spT (L[j]?.getD default):=by
  show aY spT _=_
  rw [uM,Nat.sub_zero,List.drop_zero,(List.take_of_length_le (by rw [List.length_drop];exact Nat.le_refl _):List.take (L.length - (j+1)) (List.drop (j+1) L)=List.drop (j+1) L)]
  have c1:=b9m (f:=spT) L j
  have c2:aY spT (L.drop j)=spT (L[j]?.getD default)+aY spT (L.drop (j+1)):=by
   rw [List.drop_eq_getElem_cons hjl,List.getElem?_eq_getElem hjl];rfl
  omega
 rw [e2,e3]
 omega
theorem d4f {l:List Trail} {s:Span} {a b:Int} (hn:l.length≤1048576):aY spT (eI l s a b)=aY spT l+1:=by
 unfold eI
 rw [dG]
 by_cases h:aL l s.Trace≥0
 · rw [decide_eq_true h,cond_true]
   have ht:=b0u h
   rw [mY ht.1]
   have e:spT { (l[(aL l s.Trace).toNat]?.getD default) with Spans:=(l[(aL l s.Trace).toNat]?.getD default).Spans++[aX s] }=spT (l[(aL l s.Trace).toNat]?.getD default)+1:=by
    show (((List.length (_++[_])):Nat):Int)=_
    rw [jP];rfl
   rw [e];omega
 · rw [decide_eq_false h,cond_false]
   obtain ⟨v,e,_,_⟩:=c7b (p0:=l) (p1:=s) hn
   rw [e]
   show aY spT (((cI (List.take (v.toNat - 0) (List.drop 0 l)))++[(Trail.mk s.Trace a b [(aX s)])])++(cI (List.take (l.length - v.toNat) (List.drop v.toNat l))))=_
   rw [dG,dG,uM,a9q,Nat.sub_zero,List.drop_zero,(List.take_of_length_le (by rw [List.length_drop];exact Nat.le_refl _):List.take (l.length - v.toNat) (List.drop v.toNat l)=List.drop v.toNat l)]
   have c1:=b9m (f:=spT) l v.toNat
   have e:spT (Trail.mk s.Trace a b [(aX s)])=1:=rfl
   omega
theorem CB.add {n m:Nat} {w:World} (h:CB n 0 w) (hb:bdS Stripe.bd m w.St) (hm:m≤1000000) {i:Nat} (hi:i < w.St.length) {s:Span} {a b c:Int}:CB n 1 { w with St:=w.St.set i (Stripe.mk c (eI (w.St[i]?.getD default).L s a b)) } :=
 { h with
   bal:=by
    show _+1=_+aY spS (w.St.set i _)
    rw [mY hi]
    have hS:Stripe.bd m (w.St[i]?.getD default):=iM hb fN _
    have e:spS (Stripe.mk c (eI (w.St[i]?.getD default).L s a b))=spS (w.St[i]?.getD default)+1:=d4f (by have:=hS.1;omega)
    rw [e]
    have:=h.bal
    show aY jC w.Deeds+1=((w.Out.length:Nat):Int)+((w.Queue.length:Nat):Int)+aY hnT w.Tasks+_
    omega }
theorem CB.queue {n:Nat} {e:Int} {w:World} (h:CB n e w) {x:Item}:CB n (e+1) { w with Queue:=w.Queue++[x] } :=
 { h with
   bal:=by
    show _+(e+1)=_+(((List.length (w.Queue++[x])):Nat):Int)+_+_
    rw [jP]
    have:=h.bal
    show aY jC w.Deeds+(e+1)=((w.Out.length:Nat):Int)+((w.Queue.length+1:Nat):Int)+aY hnT w.Tasks+aY spS w.St
    omega }
theorem d6u {n:Nat} {w:World} {k c s:Int} (h:CB n 0 w) (hk:k.toNat < 5) (ho:(w.Tasks[k.toNat]?.getD default).Op=1) (hc:c=3∨c=4):CB n 0 (fT w k c s) :=
 c6r h hk ho (by rcases hc with rfl | rfl <;> rfl)
theorem d6t {n:Nat} {w:World} {k c s:Int} (h:CB n 1 w) (hk:k.toNat < 5) (ho:(w.Tasks[k.toNat]?.getD default).Op=1) (hc:c=1∨c=2):CB n 0 (fT w k c s) :=
 c6r h hk ho (by rcases hc with rfl | rfl <;> rfl)
def CR (n:Nat) (z:Bool×World):Prop:=CB n 0 z.2
theorem d3j {n m:Nat} {w:World} {k:Int} (h:CB n 0 w) (hw:WI m w) (hm:m≤880000) (hk:k.toNat < 5) (ho:(w.Tasks[k.toNat]?.getD default).Op=1):CB n 0 (fM w k).2:=by
 show CR n (fM w k)
 unfold fM
 refine aH (P:=CR n) (fun _=>(d6u (c:=4) (s:=0) h hk ho (.inr rfl))) (fun _=>?_)
 show CR n (Step.get _ (fX w k))
 refine uU (P:=fun _=>True) (Q:=CR n) ?_ (fun s2 _=>?_)
 · unfold fX
   exact cO (cO (cO (fV h) (fV (r:=(true,_)) (d6t (c:=2) (h.queue) hk ho (.inr rfl)))) (dD trivial)) (dD trivial)
 · refine aH (P:=CR n) (fun _=>(d6u (c:=3) h hk ho (.inl rfl))) (fun _=>aH (P:=CR n) (fun _=>?_) (fun _=>?_))
   · exact (h.lock).pc (by rfl) (by rfl) (by rfl) (.inl ho)
   · refine uU (st:=fW w k) (P:=fun s=>CB n 0 s.1∧WI (m+1) s.1∧s.1.Tasks=w.Tasks∧s.1.St.length=w.St.length) (Q:=CR n) ?_ (fun s4 hs=>?_)
     · unfold fW
       exact cO (dD ⟨h.free,((hw.mono (Nat.le_succ m)).ww (b8h hw.wb)).free,rfl,rfl⟩) (dD ⟨h,hw.mono (Nat.le_succ m),rfl,rfl⟩)
     · obtain ⟨h1,h2,h3,h4⟩:=hs
       have hi:((aD (w.Tasks[k.toNat]?.getD default).S.Trace (((w.St).length:Nat):Int))).toNat < s4.1.St.length:=by
        have:=stO (t:=(w.Tasks[k.toNat]?.getD default).S.Trace) hw.sl
        omega
       have hA:=(h1.add h2.s (by omega) hi (s:=(w.Tasks[k.toNat]?.getD default).S) (a:=s4.2) (b:=s4.1.W.Now) (c:=(s4.1.St[((aD (w.Tasks[k.toNat]?.getD default).S.Trace (((w.St).length:Nat):Int))).toNat]?.getD default).Held)).free (u:=IntKind.i64.wrap (s4.1.Used+(cY (w.Tasks[k.toNat]?.getD default).S))) (c:=s4.1.C) (s:=s4.1.Shut) (r:=s4.1.RuleHeld) (x:=s4.1.Next) (b:=s4.1.B) (q:=s4.1.Cache) (W:=s4.1.W) (du:=s4.1.Due)
       exact d6t (c:=1) (s:=s4.2) hA hk (by show (s4.1.Tasks[k.toNat]?.getD default).Op=1;rw [h3];exact ho) (.inl rfl)
theorem d2u {n:Nat} {w:World} {k:Int} (h:CB n 0 w) (ho:(w.Tasks[k.toNat]?.getD default).Op=1):CB n 0 (cL w k).2:=by
 show CR n (cL w k)
 unfold cL
 refine aH (P:=CR n) (fun _=>?_) (fun _=>aH (P:=CR n) (fun _=>h) (fun _=>?_))
 · exact h.pc (by rfl) (by rfl) (by rfl) (.inl ho)
 · exact (h.lock).pc (by rfl) (by rfl) (by rfl) (.inl ho)
theorem CB.gone {n m:Nat} {w:World} {k:Int} (h:CB n 0 w) (hb:bdS Stripe.bd m w.St) (hm:m≤1000000) (hf:(aC w.St k).2=true):CB n (-spT (aC w.St k).1) { w with St:=cE w.St (aC w.St k).1.Id } :=
 { h with
   bal:=by
    show _+_=_+aY spS (cE w.St _)
    rw [c9h hb hm hf]
    have:=h.bal
    show aY jC w.Deeds+-spT (aC w.St k).1=((w.Out.length:Nat):Int)+((w.Queue.length:Nat):Int)+aY hnT w.Tasks+(aY spS w.St - spT (aC w.St k).1)
    omega }
theorem CB.deed {n:Nat} {e f:Int} {w:World} {d:Deed} (h:CB n e w) (hd:DD d) (hf:f=e - jC d):CB n f { w with Deeds:=w.Deeds++[d] } :=
 { h with
   bal:=by
    show aY jC (w.Deeds++[d])+f=_
    rw [a9q]
    have:=h.bal
    show aY jC w.Deeds+jC d+f=((w.Out.length:Nat):Int)+((w.Queue.length:Nat):Int)+aY hnT w.Tasks+aY spS w.St
    omega
   tk:=fun k hk=>(h.tk k hk).app
   dd:=d6z h.dd hd }
theorem d3y {n m:Nat} {w:World} {k:Int} (h:CB n 0 w) (hw:WI m w) (hm:m≤880000) (hk:k.toNat < 5) (ho:(w.Tasks[k.toNat]?.getD default).Op=1):CB n 0 (gK w k):=by
 unfold gK
 show CB n 0 (Step.get _ (dZ w k))
 have key:∃s,dZ w k=.next s∧CB n 0 s∧s.Tasks=w.Tasks:=by
  unfold dZ
  refine aH (P:=fun z:Step World World=>∃s,z=.next s∧CB n 0 s∧s.Tasks=w.Tasks) (fun hf=>aH (P:=fun z:Step World World=>∃s,z=.next s∧CB n 0 s∧s.Tasks=w.Tasks) (fun _=>aH (P:=fun z:Step World World=>∃s,z=.next s∧CB n 0 s∧s.Tasks=w.Tasks) (fun _=>?_) (fun _=>⟨_,rfl,h,rfl⟩)) (fun _=>⟨_,rfl,h,rfl⟩)) (fun _=>⟨_,rfl,h,rfl⟩)
  refine ⟨_,rfl,?_,rfl⟩
  have hg:=(h.gone hw.s (by omega) hf).free (c:=w.C) (s:=w.Shut) (r:=w.RuleHeld) (u:=IntKind.i64.wrap (w.Used - (kU (aC w.St (w.Tasks[k.toNat]?.getD default).Trace).1))) (x:=w.Next) (b:=w.B) (q:=(eF w.Cache (Verdict.mk (aC w.St (w.Tasks[k.toNat]?.getD default).Trace).1.Id (aC w.St (w.Tasks[k.toNat]?.getD default).Trace).1.Stamp false) w.C.Cache).1) (W:=(dI w.W (aC w.St (w.Tasks[k.toNat]?.getD default).Trace).1.Stamp).1) (du:=w.Due)
  refine hg.deed ⟨fun hq=>(by cases hq),fun _=>.inl rfl⟩ ?_
  have q:(w.Time==(-1))=false:=by simp;have:=h.tm;omega
  show (0:Int)=-spT (aC w.St (w.Tasks[k.toNat]?.getD default).Trace).1 - (bif w.Time==(-1) then 0 else -((((aC w.St (w.Tasks[k.toNat]?.getD default).Trace).1.Spans).length:Nat):Int))
  rw [q,cond_false]
  unfold spT
  omega
 obtain ⟨s,e,hs,hT⟩:=key
 rw [e]
 exact (hs.lock).pc (by rfl) (by rfl) (by rfl) (.inl (by show (s.Tasks[k.toNat]?.getD default).Op=1;rw [hT];exact ho))
theorem c8c {w:World} {k:Int} {b:Bool} {l:List Span} (hb:(bU w.C.Rule (aC w.St (w.Tasks[k.toNat]?.getD default).Trace).1.Spans (bB w.B w.W.Now).Tokens).1=b):∀(i:Nat) (s:List Item),∃v,aJ (gX w k) i s l=.fin v∧v.length=s.length+bif b then l.length else 0:=by
 induction l with
 | nil=>intro i s;exact ⟨s,rfl,by cases b <;> rfl⟩
 | cons a l ih =>
   intro i s
   have e0:gX w k i s a=bif b then (.next (s++[(Item.mk (aC w.St (w.Tasks[k.toNat]?.getD default).Trace).1.Stamp (aX a))])) else (.stop s):=by unfold gX;rw [hb]
   unfold aJ
   rw [e0]
   cases b with
   | true =>
     obtain ⟨v,e,hv⟩:=ih (i+1) (s++[(Item.mk (aC w.St (w.Tasks[k.toNat]?.getD default).Trace).1.Stamp (aX a))])
     exact ⟨v,e,by rw [hv,jP];simp only [cond_true,List.length_cons];omega⟩
   | false=>exact ⟨s,rfl,rfl⟩
theorem d5v {n m:Nat} {w:World} {k:Int} (h:CB n 0 w) (hw:WI m w) (hm:m≤880000) (hk:k.toNat < 5) (ho:(w.Tasks[k.toNat]?.getD default).Op=2) (hp:(w.Tasks[k.toNat]?.getD default).Pc=2):CB n 0 (fI w k):=by
 have ht:=h.tk _ hk
 obtain ⟨h1,h2,h3,h4,h5⟩:=ht.own (.inr ho)
 have h5:=h5 (.inr (.inr (.inr hp)))
 rw [ho] at h4
 have hh:(w.Tasks[k.toNat]?.getD default).Hand=[]:=by
  by_cases hh:(w.Tasks[k.toNat]?.getD default).Hand=[]
  · exact hh
  · exact absurd (.inr (.inr hp)) (ht.hand hh).2
 have hvo:(w.Deeds[(w.Tasks[k.toNat]?.getD default).H.toNat]?.getD default).Void=false:=(h.dd _ (oF h2)).vo h4 h5
 have hfg:(w.Deeds[(w.Tasks[k.toNat]?.getD default).H.toNat]?.getD default).Forgot=0:=by
  by_cases hq:(w.Deeds[(w.Tasks[k.toNat]?.getD default).H.toNat]?.getD default).Forgot=0
  · exact hq
  · rcases (h.dd _ (oF h2)).fg hq with q | q
    · rw [h4] at q;cases q
    · exact absurd h5 q.2.1
 have q0:(w.Time==(-1))=false:=by simp;have:=h.tm;omega
 have n0:jC (w.Deeds[(w.Tasks[k.toNat]?.getD default).H.toNat]?.getD default)=0:=by unfold jC;rw [h5];rfl
 have fin:∀(s:World×List Item) (d:Deed) (e:Int),cP w k=.next s→CB n e { s.1 with Deeds:=w.Deeds }→s.1.Tasks=w.Tasks→s.1.Time=w.Time→s.1.Deeds=w.Deeds.set (w.Tasks[k.toNat]?.getD default).H.toNat d→d.Task=((k.toNat:Nat):Int)→d.Op=2→(∀r:Int,DD { d with Now:=s.1.W.Now,Lin:=w.Time,Res:=r })→(∀r:Int,jC { d with Now:=s.1.W.Now,Lin:=w.Time,Res:=r }=e+((s.2.length:Nat):Int))→CB n 0 (fI w k):=by
  intro s d e ej hc hT htm hD hdt hdo hdd hnet
  unfold fI
  show CB n 0 (Step.get _ (cP w k))
  rw [ej]
  have hget:s.1.Deeds[(w.Tasks[k.toNat]?.getD default).H.toNat]?.getD default=d:=by rw [hD,dT,if_pos ⟨rfl,h2⟩]
  have hln:(w.Tasks[k.toNat]?.getD default).H.toNat < s.1.Deeds.length:=by rw [hD,List.length_set];exact h2
  have hb:=hc.bal
  have hset:∀r:Int,aY jC (List.set s.1.Deeds (w.Tasks[k.toNat]?.getD default).H.toNat { (s.1.Deeds[(w.Tasks[k.toNat]?.getD default).H.toNat]?.getD default) with Now:=s.1.W.Now,Lin:=s.1.Time,Res:=r })=aY jC w.Deeds+e+((s.2.length:Nat):Int):=by
   intro r
   rw [hget,hD,List.set_set,mY h2,n0,htm,hnet r];omega
  have hlock:∀(i:Nat) (a:Int),aY spS (s.1.St.set i (Stripe.mk a (s.1.St[i]?.getD default).L))=aY spS s.1.St:=fun i a=>yQ (by rfl)
  have htk:∀(x:Task) (r:Int),TD (List.set s.1.Deeds (w.Tasks[k.toNat]?.getD default).H.toNat { (s.1.Deeds[(w.Tasks[k.toNat]?.getD default).H.toNat]?.getD default) with Now:=s.1.W.Now,Lin:=s.1.Time,Res:=r }) k.toNat x→∀j,j < 5→TD (List.set s.1.Deeds (w.Tasks[k.toNat]?.getD default).H.toNat { (s.1.Deeds[(w.Tasks[k.toNat]?.getD default).H.toNat]?.getD default) with Now:=s.1.W.Now,Lin:=s.1.Time,Res:=r }) j ((s.1.Tasks.set k.toNat x)[j]?.getD default):=by
   intro x r hx
   rw [hT]
   refine a6g (fun j hj hn=>?_) (fun _=>hx) h.tl
   rw [hD,List.set_set]
   exact (h.tk j hj).set h3 hn
  have hdd':∀r:Int,∀y∈List.set s.1.Deeds (w.Tasks[k.toNat]?.getD default).H.toNat { (s.1.Deeds[(w.Tasks[k.toNat]?.getD default).H.toNat]?.getD default) with Now:=s.1.W.Now,Lin:=s.1.Time,Res:=r },DD y:=by
   intro r
   rw [hget,hD,List.set_set,htm]
   exact c0f h.dd (hdd r)
  have hhn:hnT (w.Tasks[k.toNat]?.getD default)=0:=by unfold hnT;rw [hh];rfl
  have hkl:k.toNat < w.Tasks.length:=by rw [h.tl];exact hk
  have hbal:aY jC w.Deeds+e=((s.1.Out.length:Nat):Int)+((s.1.Queue.length:Nat):Int)+aY hnT w.Tasks+aY spS s.1.St:=by rw [←hT];exact hb
  refine aH (P:=CB n 0) (fun hl=>?_) (fun hl=>?_)
  · have hl:((s.2.length:Nat):Int)=0:=by simpa using hl
    refine ⟨?_,by show 0≤s.1.Time∧s.1.Time≤_;rw [htm];exact h.tm,by show (List.set s.1.Tasks _ _).length=5;rw [List.length_set,hT];exact h.tl,htk _ s.1.Time a7x,hdd' s.1.Time⟩
    show aY jC (List.set s.1.Deeds _ _)+0=_+_+aY hnT (s.1.Tasks.set _ _)+aY spS (s.1.St.set _ _)
    rw [hset s.1.Time,hlock,hT,mY hkl,hhn]
    have e4:hnT (Task.mk 0 0 (Span.mk 0 0 0 0 false ([]:List Attr)) 0 0 ([]:List Item) 0)=0:=rfl
    rw [e4]
    show aY jC w.Deeds+e+_+0=((s.1.Out.length:Nat):Int)+((s.1.Queue.length:Nat):Int)+(aY hnT w.Tasks - 0+0)+aY spS s.1.St
    omega
  · refine ⟨?_,by show 0≤s.1.Time∧s.1.Time≤_;rw [htm];exact h.tm,by show (List.set s.1.Tasks _ _).length=5;rw [List.length_set,hT];exact h.tl,htk _ (s.1.Deeds[(w.Tasks[k.toNat]?.getD default).H.toNat]?.getD default).Res ?_,hdd' (s.1.Deeds[(w.Tasks[k.toNat]?.getD default).H.toNat]?.getD default).Res⟩
    · show aY jC (List.set s.1.Deeds _ _)+0=_+_+aY hnT (s.1.Tasks.set _ _)+aY spS (s.1.St.set _ _)
      have hs:=hset (s.1.Deeds[(w.Tasks[k.toNat]?.getD default).H.toNat]?.getD default).Res
      rw [hlock,hT,mY hkl,hhn]
      have e4:hnT { (w.Tasks[k.toNat]?.getD default) with Pc:=3,Hand:=s.2 }=((s.2.length:Nat):Int):=rfl
      rw [e4]
      show aY jC (List.set s.1.Deeds (w.Tasks[k.toNat]?.getD default).H.toNat { (s.1.Deeds[(w.Tasks[k.toNat]?.getD default).H.toNat]?.getD default) with Now:=s.1.W.Now,Lin:=s.1.Time,Res:=(s.1.Deeds[(w.Tasks[k.toNat]?.getD default).H.toNat]?.getD default).Res })+0=((s.1.Out.length:Nat):Int)+((s.1.Queue.length:Nat):Int)+(aY hnT w.Tasks - 0+((s.2.length:Nat):Int))+aY spS s.1.St
      rw [hs]
      omega
    · rw [hT]
      refine ⟨fun _=>?_,fun _=>⟨ho,fun hq=>by rcases hq with hq | hq | hq <;> cases hq⟩⟩
      show 0≤(w.Tasks[k.toNat]?.getD default).H∧(w.Tasks[k.toNat]?.getD default).H.toNat < _∧_
      rw [dT,if_pos ⟨rfl,hln⟩,hget]
      refine ⟨h1,by rw [List.length_set];exact hln,hdt,hdo.trans ho.symm,fun hq=>?_⟩
      rcases hq with hq | hq | hq | hq
      · rw [show (w.Tasks[k.toNat]?.getD default).Op=1 from hq] at ho;cases ho
      · cases hq
      · cases hq
      · cases hq
 have vd:∀s:World×List Item,cP w k=.next s→s=({ w with Deeds:=(List.set w.Deeds ((w.Tasks[k.toNat]?.getD default).H).toNat { (w.Deeds[((w.Tasks[k.toNat]?.getD default).H).toNat]?.getD default) with Void:=true }) },([]:List Item))→CB n 0 (fI w k):=by
  intro s ej hs
  subst hs
  refine fin _ { (w.Deeds[((w.Tasks[k.toNat]?.getD default).H).toNat]?.getD default) with Void:=true } 0 ej h rfl rfl rfl h3 h4 (fun r=>⟨fun _ hq=>?_,fun hq=>absurd hfg hq⟩) (fun r=>?_)
  · have:w.Time=-1:=hq
    have:=h.tm;omega
  · unfold jC
    simp only [q0,cond_false,h4]
    rfl
 have jd:cP w k=cP w k:=rfl
 conv at jd=>rhs;unfold cP
 cases c1:(aC w.St (w.Tasks[k.toNat]?.getD default).Trace).2 with
 | false=>rw [c1] at jd;exact vd _ jd rfl
 | true =>
   rw [c1] at jd
   cases c2:((aC w.St (w.Tasks[k.toNat]?.getD default).Trace).1.Stamp==(w.Tasks[k.toNat]?.getD default).Stamp) with
   | false=>rw [c2] at jd;exact vd _ jd rfl
   | true =>
     rw [c2] at jd
     obtain ⟨v,ev,hv⟩:=c8c (w:=w) (k:=k) (l:=(aC w.St (w.Tasks[k.toNat]?.getD default).Trace).1.Spans) rfl 0 []
     rw [ev] at jd
     have hg:=(h.gone hw.s (by omega) c1).free (c:=w.C) (s:=w.Shut) (r:=w.RuleHeld) (u:=IntKind.i64.wrap (w.Used - (kU (aC w.St (w.Tasks[k.toNat]?.getD default).Trace).1))) (x:=w.Next) (b:=(nJ (bB w.B w.W.Now) (bU w.C.Rule (aC w.St (w.Tasks[k.toNat]?.getD default).Trace).1.Spans (bB w.B w.W.Now).Tokens).2).1) (q:=(eF w.Cache (Verdict.mk (aC w.St (w.Tasks[k.toNat]?.getD default).Trace).1.Id (aC w.St (w.Tasks[k.toNat]?.getD default).Trace).1.Stamp (bU w.C.Rule (aC w.St (w.Tasks[k.toNat]?.getD default).Trace).1.Spans (bB w.B w.W.Now).Tokens).1) w.C.Cache).1) (W:=w.W) (du:=w.Due)
     refine fin _ { (w.Deeds[((w.Tasks[k.toNat]?.getD default).H).toNat]?.getD default) with Keep:=(bU w.C.Rule (aC w.St (w.Tasks[k.toNat]?.getD default).Trace).1.Spans (bB w.B w.W.Now).Tokens).1,Took:=(bU w.C.Rule (aC w.St (w.Tasks[k.toNat]?.getD default).Trace).1.Spans (bB w.B w.W.Now).Tokens).2,N:=((((aC w.St (w.Tasks[k.toNat]?.getD default).Trace).1.Spans).length:Nat):Int),Forgot:=(eF w.Cache (Verdict.mk (aC w.St (w.Tasks[k.toNat]?.getD default).Trace).1.Id (aC w.St (w.Tasks[k.toNat]?.getD default).Trace).1.Stamp (bU w.C.Rule (aC w.St (w.Tasks[k.toNat]?.getD default).Trace).1.Spans (bB w.B w.W.Now).Tokens).1) w.C.Cache).2 } (-spT (aC w.St (w.Tasks[k.toNat]?.getD default).Trace).1) jd hg rfl rfl rfl h3 h4 (fun r=>⟨fun _ _=>hvo,fun _=>.inr ⟨h4,fun hq=>?_,hvo⟩⟩) (fun r=>?_)
     · have:w.Time=-1:=hq
       have:=h.tm;omega
     · unfold jC
       simp only [q0,cond_false,h4,hvo]
       show (bif (2:Int)==1 then _ else bif (2:Int)==3 then _ else bif (2:Int)==2 then _ else _)=_
       have hv':v.length=bif (bU w.C.Rule (aC w.St (w.Tasks[k.toNat]?.getD default).Trace).1.Spans (bB w.B w.W.Now).Tokens).1 then (aC w.St (w.Tasks[k.toNat]?.getD default).Trace).1.Spans.length else 0:=by rw [hv];exact Nat.zero_add _
       show (bif (bU w.C.Rule (aC w.St (w.Tasks[k.toNat]?.getD default).Trace).1.Spans (bB w.B w.W.Now).Tokens).1 then 0 else -((((aC w.St (w.Tasks[k.toNat]?.getD default).Trace).1.Spans).length:Nat):Int))=-spT (aC w.St (w.Tasks[k.toNat]?.getD default).Trace).1+((v.length:Nat):Int)
       rw [hv']
       unfold spT
       cases (bU w.C.Rule (aC w.St (w.Tasks[k.toNat]?.getD default).Trace).1.Spans (bB w.B w.W.Now).Tokens).1
       · simp only [cond_false];omega
       · simp only [cond_true];omega
theorem d2y {n:Nat} {w:World} {k:Int} (h:CB n 0 w) (hn:(w.Tasks[k.toNat]?.getD default).Hand≠[]) (hk:k.toNat < 5) (ho:(w.Tasks[k.toNat]?.getD default).Op=2):CB n 0 (cU w k).2:=by
 have ht:=h.tk _ hk
 obtain ⟨h1,h2,h3,h4,h5⟩:=ht.own (.inr ho)
 have hz:=List.length_pos_iff.2 hn
 have hkl:k.toNat < w.Tasks.length:=by rw [h.tl];exact hk
 have hb:=h.bal
 show CR n (cU w k)
 unfold cU
 refine aH (P:=CR n) (fun _=>h) (fun _=>aH (P:=CR n) (fun hl=>?_) (fun hl=>?_))
 · have hl:((((w.Tasks[k.toNat]?.getD default).Hand).length:Nat):Int)=1:=by simpa using hl
   refine ⟨?_,h.tm,(List.length_set ..).trans h.tl,a6g (fun j hj hne=>(h.tk j hj).set h3 hne) (fun _=>a7x) h.tl,c0f h.dd ?_⟩
   · show aY jC (w.Deeds.set _ _)+0=_+(((List.length (w.Queue++[_])):Nat):Int)+aY hnT (w.Tasks.set _ _)+_
     rw [jP,yQ (f:=jC) (by rfl),mY hkl]
     have e4:hnT (Task.mk 0 0 (Span.mk 0 0 0 0 false ([]:List Attr)) 0 0 ([]:List Item) 0)=0:=rfl
     have e5:hnT (w.Tasks[k.toNat]?.getD default)=1:=hl
     rw [e4,e5]
     show aY jC w.Deeds+0=((w.Out.length:Nat):Int)+((w.Queue.length+1:Nat):Int)+(aY hnT w.Tasks - 1+0)+aY spS w.St
     omega
   · have hm:=h.dd _ (oF h2)
     exact ⟨hm.vo,hm.fg⟩
 · have hl:((((w.Tasks[k.toNat]?.getD default).Hand).length:Nat):Int)≠1:=by simpa using hl
   refine ⟨?_,h.tm,(List.length_set ..).trans h.tl,a6g (fun j hj _=>h.tk j hj) (fun _=>⟨ht.own,fun _=>ht.hand hn⟩) h.tl,h.dd⟩
   show aY jC w.Deeds+0=_+(((List.length (w.Queue++[_])):Nat):Int)+aY hnT (w.Tasks.set _ _)+_
   rw [jP,mY hkl]
   have e5:hnT { (w.Tasks[k.toNat]?.getD default) with Hand:=List.take ((w.Tasks[k.toNat]?.getD default).Hand.length - 1) (List.drop 1 (w.Tasks[k.toNat]?.getD default).Hand) }=hnT (w.Tasks[k.toNat]?.getD default) - 1:=by
    unfold hnT
    simp only [List.length_take,List.length_drop]
    omega
   rw [e5]
   show aY jC w.Deeds+0=((w.Out.length:Nat):Int)+((w.Queue.length+1:Nat):Int)+(aY hnT w.Tasks - hnT (w.Tasks[k.toNat]?.getD default)+(hnT (w.Tasks[k.toNat]?.getD default) - 1))+aY spS w.St
   omega
theorem TD.fresh {D:List Deed} {k:Nat} {t:Task} {d:Deed} (hH:t.H=((D.length:Nat):Int)) (hT:d.Task=(k:Int)) (hO:d.Op=t.Op) (hL:d.Lin=-1) (hh:t.Hand=[]):TD (D++[d]) k t :=
 ⟨fun _=>by
   have e:t.H.toNat=D.length:=by rw [hH];exact Int.toNat_natCast _
   rw [e,yT]
   exact ⟨by omega,by rw [jP];omega,hT,hO,fun _=>hL⟩,fun hn=>absurd hh hn⟩
theorem xV {k:Int} (h:0≤k):k=((k.toNat:Nat):Int):=by omega
theorem c8o {n:Nat} {w:World} {k:Int} {s:Span} (h:CB n 0 w) (hn:n≤1000000) (hk0:0≤k) (hk:k.toNat < 5) (ho:(w.Tasks[k.toNat]?.getD default).Op=0):CB (n+1) 0 (dA w k s):=by
 have ht:=h.tk _ hk
 have hh:(w.Tasks[k.toNat]?.getD default).Hand=[]:=by
  by_cases hh:(w.Tasks[k.toNat]?.getD default).Hand=[]
  · exact hh
  · have:=(ht.hand hh).1;rw [ho] at this;cases this
 have q0:(w.Time==(-1))=false:=by simp;have:=h.tm;omega
 unfold dA kA jZ
 cases (!iA w.C s)
 · have h2:=h.deed (d:=Deed.mk 1 k (aX s) 0 0 0 false false 0 0 0 w.W.Now w.Time (-1) (-1)) (f:=0) ⟨fun hq=>(by cases hq),fun hq=>absurd rfl hq⟩ rfl
   exact (h2.task (j:=k.toNat) (x:=Task.mk 1 0 (aX s) 0 0 ([]:List Item) ((w.Deeds.length:Nat):Int)) hh.symm (fun _=>.fresh rfl (xV hk0) rfl rfl rfl)).tick hn
 · refine (h.deed (d:=Deed.mk 1 k (aX s) 0 0 5 false false 0 0 0 w.W.Now w.Time w.Time w.Time) (f:=0) ⟨fun hq=>(by cases hq),fun hq=>absurd rfl hq⟩ ?_).tick hn
   unfold jC
   simp only [q0]
   rfl
theorem c9p {n:Nat} {w:World} {k:Int} (h:CB n 0 w) (hn:n≤1000000) (hk0:0≤k) (hk:k.toNat < 5) (ho:(w.Tasks[k.toNat]?.getD default).Op≠2):CB (n+1) 0 (jT w k):=by
 have ht:=h.tk _ hk
 have hh:(w.Tasks[k.toNat]?.getD default).Hand=[]:=by
  by_cases hh:(w.Tasks[k.toNat]?.getD default).Hand=[]
  · exact hh
  · exact absurd (ht.hand hh).1 ho
 have h2:=h.deed (d:=Deed.mk 2 k (Span.mk 0 0 0 0 false ([]:List Attr)) (w.Due[0]?.getD default).Trace (w.Due[0]?.getD default).Id 0 false false 0 0 0 w.W.Now w.Time (-1) (-1)) (f:=0) ⟨fun _ _=>rfl,fun hq=>absurd rfl hq⟩ rfl
 exact (h2.task (j:=k.toNat) (x:=Task.mk 2 0 (Span.mk 0 0 0 0 false ([]:List Attr)) (w.Due[0]?.getD default).Trace (w.Due[0]?.getD default).Id ([]:List Item) ((w.Deeds.length:Nat):Int)) hh.symm (fun _=>.fresh rfl (xV hk0) rfl rfl rfl)).tick hn
theorem d3i {w:World} {k:Int}:(fM w k).2.Out=w.Out:=by
 show (fun z:Bool×World=>z.2.Out=w.Out) (fM w k)
 unfold fM
 refine aH (P:=fun z:Bool×World=>z.2.Out=w.Out) (fun _=>rfl) (fun _=>?_)
 show (fun z:Bool×World=>z.2.Out=w.Out) (Step.get _ (fX w k))
 refine uU (P:=fun _=>True) (Q:=fun z:Bool×World=>z.2.Out=w.Out) ?_ (fun s2 _=>?_)
 · unfold fX
   exact cO (cO (cO (fV rfl) (fV (r:=(true,_)) rfl)) (dD trivial)) (dD trivial)
 · refine aH (P:=fun z:Bool×World=>z.2.Out=w.Out) (fun _=>rfl) (fun _=>aH (P:=fun z:Bool×World=>z.2.Out=w.Out) (fun _=>rfl) (fun _=>?_))
   refine uU (st:=fW w k) (P:=fun s=>s.1.Out=w.Out) (Q:=fun z:Bool×World=>z.2.Out=w.Out) ?_ (fun s4 hs=>hs)
   unfold fW
   exact cO (dD rfl) (dD rfl)
theorem d2t {w:World} {k:Int}:(cL w k).2.Out=w.Out∧(cL w k).2.Queue=w.Queue∧(cL w k).2.Deeds=w.Deeds:=by
 show (fun z:Bool×World=>z.2.Out=w.Out∧z.2.Queue=w.Queue∧z.2.Deeds=w.Deeds) (cL w k)
 unfold cL
 exact aH (P:=fun z:Bool×World=>z.2.Out=w.Out∧z.2.Queue=w.Queue∧z.2.Deeds=w.Deeds) (fun _=>⟨rfl,rfl,rfl⟩) (fun _=>aH (P:=fun z:Bool×World=>z.2.Out=w.Out∧z.2.Queue=w.Queue∧z.2.Deeds=w.Deeds) (fun _=>⟨rfl,rfl,rfl⟩) (fun _=>⟨rfl,rfl,rfl⟩))
theorem d3x {w:World} {k:Int}:(gK w k).Out=w.Out∧(gK w k).Queue=w.Queue:=by
 unfold gK
 show (fun z:World=>z.Out=w.Out∧z.Queue=w.Queue) (Step.get _ (dZ w k))
 refine uU (P:=fun s:World=>s.Out=w.Out∧s.Queue=w.Queue) (Q:=fun z:World=>z.Out=w.Out∧z.Queue=w.Queue) ?_ (fun s hs=>hs)
 unfold dZ
 exact cO (cO (cO (dD (s:=World.mk _ _ _ _ _ _ _ _ _ _ _ _ _ _ _) ⟨rfl,rfl⟩) (dD ⟨rfl,rfl⟩)) (dD ⟨rfl,rfl⟩)) (dD ⟨rfl,rfl⟩)
theorem d5u {w:World} {k:Int} {m:Nat} (hw:WI m w):(fI w k).Out=w.Out∧(fI w k).Queue=w.Queue:=by
 unfold fI
 show (fun z:World=>z.Out=w.Out∧z.Queue=w.Queue) (Step.get _ (cP w k))
 have key:∃s,cP w k=.next s∧s.1.Out=w.Out∧s.1.Queue=w.Queue:=by
  unfold cP
  refine aH (P:=fun z:Step (World×List Item) World=>∃s,z=.next s∧s.1.Out=w.Out∧s.1.Queue=w.Queue) (fun _=>aH (P:=fun z:Step (World×List Item) World=>∃s,z=.next s∧s.1.Out=w.Out∧s.1.Queue=w.Queue) (fun _=>?_) (fun _=>⟨_,rfl,rfl,rfl⟩)) (fun _=>⟨_,rfl,rfl,rfl⟩)
  obtain ⟨v,e,_⟩:=c5t (k:=k) hw
  rw [e]
  exact ⟨_,rfl,rfl,rfl⟩
 obtain ⟨s,e,hs⟩:=key
 rw [e]
 exact aH (P:=fun z:World=>z.Out=w.Out∧z.Queue=w.Queue) (fun _=>hs) (fun _=>hs)
theorem c8n {w:World} {k:Int} {s:Span}:(dA w k s).Out=w.Out∧(dA w k s).Queue=w.Queue∧(dA w k s).St=w.St:=by
 unfold dA kA jZ
 cases (!iA w.C s) <;> exact ⟨rfl,rfl,rfl⟩
theorem d2x {w:World} {k:Int}:(cU w k).2.Out=w.Out∧(cU w k).2.St=w.St:=by
 show (fun z:Bool×World=>z.2.Out=w.Out∧z.2.St=w.St) (cU w k)
 unfold cU
 exact aH (P:=fun z:Bool×World=>z.2.Out=w.Out∧z.2.St=w.St) (fun _=>⟨rfl,rfl⟩) (fun _=>aH (P:=fun z:Bool×World=>z.2.Out=w.Out∧z.2.St=w.St) (fun _=>⟨rfl,rfl⟩) (fun _=>⟨rfl,rfl⟩))
theorem CB.of {n:Nat} {e:Int} {v w:World} (h:CB n e v) (h1:w.Deeds=v.Deeds) (h2:w.Out=v.Out) (h3:w.Queue=v.Queue) (h4:w.Tasks=v.Tasks) (h5:w.St=v.St) (h6:w.Time=v.Time):CB n e w :=
 ⟨by rw [h1,h2,h3,h4,h5];exact h.bal,by rw [h6];exact h.tm,by rw [h4];exact h.tl,by rw [h1,h4];exact h.tk,by rw [h1];exact h.dd⟩
theorem CB.ofT {n:Nat} {e:Int} {v w:World} (h:CB n e v) (hn:n≤1000000) (h1:w.Deeds=v.Deeds) (h2:w.Out=v.Out) (h3:w.Queue=v.Queue) (h4:w.Tasks=v.Tasks) (h5:w.St=v.St) (h6:w.Time=IntKind.i64.wrap (v.Time+1)):CB (n+1) e w :=
 CB.of (h.tick (c:=v.C) (s:=v.Shut) (r:=v.RuleHeld) (u:=v.Used) (x:=v.Next) (b:=v.B) (q:=v.Cache) (W:=v.W) (du:=v.Due) hn) h1 h2 h3 h4 h5 h6
theorem CB.up {n:Nat} {e:Int} {w:World} (h:CB n e w):CB (n+1) e w:=h.mono (Nat.le_succ n)
theorem c5q {n m:Nat} {w:World} {k:Int} (h:CB n 0 w) (hn:n≤1000000) (hw:WI m w) (hm:m≤880000) (hk:k.toNat < 5) (ho:(w.Tasks[k.toNat]?.getD default).Op=1):CB (n+1) 0 (gJ w k).2∧(gJ w k).2.Out=w.Out:=by
 show (fun z:Bool×World=>CB (n+1) 0 z.2∧z.2.Out=w.Out) (gJ w k)
 unfold gJ
 refine uU (P:=fun s:Bool×Conf×Int×Bool×Int×Bucket×Int×Wheel×Int×(List Stripe)×(List Verdict)×(List Item)×(List Task)×(List Deed)=>∃v:World,CB n 0 v∧v.Out=w.Out∧s.2.2.1=v.Time∧s.2.2.2.2.2.2.2.2.2.1=v.St∧s.2.2.2.2.2.2.2.2.2.2.2.1=v.Queue∧s.2.2.2.2.2.2.2.2.2.2.2.2.1=v.Tasks∧s.2.2.2.2.2.2.2.2.2.2.2.2.2=v.Deeds) (Q:=fun z:Bool×World=>CB (n+1) 0 z.2∧z.2.Out=w.Out) ?_ (fun s hs=>?_)
 · unfold oZ
   refine cO (cO (fV ⟨h.up,rfl⟩) (fV (r:=(true,_)) ⟨((h.lock).pc (by rfl) (by rfl) (by rfl) (by exact .inl ho)).tick hn,rfl⟩)) (cO (dD ?_) (cO (dD ?_) (fV (r:=(true,_)) ?_)))
   · exact ⟨_,d3j h hw hm hk ho,d3i,rfl,rfl,rfl,rfl,rfl⟩
   · have hf:=d2t (w:=w) (k:=k)
     exact ⟨_,d2u h ho,hf.1,rfl,rfl,hf.2.1.symm,rfl,hf.2.2.symm⟩
   · have hd:=d3y h hw hm hk ho
     have hf:=d3x (w:=w) (k:=k)
     exact ⟨hd.ofT hn rfl hf.1.symm hf.2.symm rfl rfl rfl,rfl⟩
 · obtain ⟨v,hv,e0,e1,e2,e3,e4,e5⟩:=hs
   refine aH (P:=fun z:Bool×World=>CB (n+1) 0 z.2∧z.2.Out=w.Out) (fun _=>⟨?_,rfl⟩) (fun _=>⟨?_,rfl⟩)
   · exact hv.ofT hn e5 e0.symm e3 e4 e2 (by rw [←e1])
   · exact CB.up (CB.of hv e5 e0.symm e3 e4 e2 e1)
theorem c5p {n m:Nat} {w:World} {k:Int} (h:CB n 0 w) (hn:n≤1000000) (hw:WI m w) (hm:m≤880000) (hk:k.toNat < 5) (ho:(w.Tasks[k.toNat]?.getD default).Op=2):CB (n+1) 0 (gI w k).2∧(gI w k).2.Out=w.Out:=by
 show (fun z:Bool×World=>CB (n+1) 0 z.2∧z.2.Out=w.Out) (gI w k)
 have hh:(w.Tasks[k.toNat]?.getD default).Pc=0∨(w.Tasks[k.toNat]?.getD default).Pc=1∨(w.Tasks[k.toNat]?.getD default).Pc=2→(w.Tasks[k.toNat]?.getD default).Hand=[]:=fun hp=>by
  by_cases hh:(w.Tasks[k.toNat]?.getD default).Hand=[]
  · exact hh
  · exact absurd hp ((h.tk _ hk).hand hh).2
 unfold gI
 refine aH (P:=fun z:Bool×World=>CB (n+1) 0 z.2∧z.2.Out=w.Out) (fun q0=>aH (P:=fun z:Bool×World=>CB (n+1) 0 z.2∧z.2.Out=w.Out) (fun _=>⟨h.up,rfl⟩) (fun _=>⟨?_,rfl⟩)) (fun q0=>aH (P:=fun z:Bool×World=>CB (n+1) 0 z.2∧z.2.Out=w.Out) (fun q1=>aH (P:=fun z:Bool×World=>CB (n+1) 0 z.2∧z.2.Out=w.Out) (fun _=>⟨h.up,rfl⟩) (fun _=>⟨?_,rfl⟩)) (fun q1=>aH (P:=fun z:Bool×World=>CB (n+1) 0 z.2∧z.2.Out=w.Out) (fun q2=>⟨?_,rfl⟩) (fun q2=>?_)))
 · have q0:(w.Tasks[k.toNat]?.getD default).Pc=0:=by simpa using q0
   exact ((h.lock).pc (by rfl) (by rfl) (by rfl) (by exact .inr ⟨hh (.inl q0),.inl q0⟩)).tick hn
 · have q1:(w.Tasks[k.toNat]?.getD default).Pc=1:=by simpa using q1
   exact (h.pc (by rfl) (by rfl) (by rfl) (by exact .inr ⟨hh (.inr (.inl q1)),.inr (.inl q1)⟩)).tick hn
 · have q2:(w.Tasks[k.toNat]?.getD default).Pc=2:=by simpa using q2
   have hf:=d5u (k:=k) hw
   exact (d5v h hw hm hk ho q2).ofT hn rfl hf.1.symm hf.2.symm rfl rfl rfl
 · have hd:=d2y h (hw.hand k.toNat ho (by
    rintro (e | e | e)
    · rw [e] at q0;cases q0
    · rw [e] at q1;cases q1
    · rw [e] at q2;cases q2)) hk ho
   have hf:=d2x (w:=w) (k:=k)
   exact aH (P:=fun z:Bool×World=>CB (n+1) 0 z.2∧z.2.Out=w.Out) (fun _=>⟨CB.up (CB.of hd rfl hf.1.symm rfl rfl hf.2.symm rfl),rfl⟩) (fun _=>⟨hd.ofT hn rfl hf.1.symm rfl rfl hf.2.symm rfl,rfl⟩)
theorem d4a {n m:Nat} {w:World} {k:Int} (h:CB n 0 w) (hn:n≤1000000) (hw:WI m w) (hm:m≤880000) (hk0:0≤k) (hk:k.toNat < 5):CB (n+1) 0 (gC w k).2∧(gC w k).2.Out=w.Out:=by
 show (fun z:Bool×World=>CB (n+1) 0 z.2∧z.2.Out=w.Out) (gC w k)
 unfold gC
 refine aH (P:=fun z:Bool×World=>CB (n+1) 0 z.2∧z.2.Out=w.Out) (fun q=>?_) (fun _=>aH (P:=fun z:Bool×World=>CB (n+1) 0 z.2∧z.2.Out=w.Out) (fun q=>?_) (fun q=>aH (P:=fun z:Bool×World=>CB (n+1) 0 z.2∧z.2.Out=w.Out) (fun _=>⟨h.up,rfl⟩) (fun _=>aH (P:=fun z:Bool×World=>CB (n+1) 0 z.2∧z.2.Out=w.Out) (fun _=>⟨h.up,rfl⟩) (fun _=>⟨?_,rfl⟩))))
 · have hd:=c5q h hn hw hm hk (by simpa using q)
   exact ⟨hd.1.of rfl hd.2.symm rfl rfl rfl rfl,rfl⟩
 · have hd:=c5p h hn hw hm hk (by simpa using q)
   exact ⟨hd.1.of rfl hd.2.symm rfl rfl rfl rfl,rfl⟩
 · exact (c9p h hn hk0 hk (by simpa using q)).of rfl rfl rfl rfl rfl rfl
theorem d3z {n m:Nat} {w:World} {e:Event} (h:CB n 0 w) (hn:n≤1000000) (hw:WI m w) (hm:m≤880000):CB (n+1) 0 (gR w e).2:=by
 show CR (n+1) (gR w e)
 unfold gR
 refine aH (P:=CR (n+1)) (fun _=>aH (P:=CR (n+1)) (fun _=>h.up) (fun q1=>aH (P:=CR (n+1)) (fun _=>h.up) (fun q2=>?_))) (fun _=>aH (P:=CR (n+1)) (fun _=>aH (P:=CR (n+1)) (fun q1=>?_) (fun _=>h.up)) (fun _=>aH (P:=CR (n+1)) (fun _=>aH (P:=CR (n+1)) (fun _=>h.up) (fun _=>aH (P:=CR (n+1)) (fun _=>h.up) (fun _=>?_))) (fun _=>aH (P:=CR (n+1)) (fun _=>aH (P:=CR (n+1)) (fun _=>h.up) (fun q1=>?_)) (fun _=>aH (P:=CR (n+1)) (fun _=>aH (P:=CR (n+1)) (fun _=>h.up) (fun _=>?_)) (fun _=>h.up)))))
 · have hk:=bD.1 (nf q1)
   have q2:(w.Tasks[e.K.toNat]?.getD default).Op=0:=by simpa using q2
   have hf:=c8n (w:=w) (k:=e.K) (s:=e.S)
   exact CB.of (c8o (s:=e.S) h hn hk.1 (by omega) q2) rfl hf.1.symm hf.2.1.symm rfl hf.2.2.symm rfl
 · have hk:=bD.1 q1
   have hd:=d4a h hn hw hm hk.1 (k:=e.K) (by omega)
   exact hd.1.of rfl hd.2.symm rfl rfl rfl rfl
 · exact h.tick hn
 · have hq:((w.Queue.length:Nat):Int)≠0:=by simpa using q1
   refine (CB.tick (w:={ w with Queue:=(List.take ((w.Queue).length - 1) (List.drop 1 w.Queue)),Out:=(w.Out++[(w.Queue[0]?.getD default)]) }) (e:=0) { h with
    bal:=?_ } hn)
   show aY jC w.Deeds+0=(((List.length (w.Out++[_])):Nat):Int)+(((List.length (List.take ((w.Queue).length - 1) (List.drop 1 w.Queue))):Nat):Int)+aY hnT w.Tasks+aY spS w.St
   have:=h.bal
   rw [jP,List.length_take,List.length_drop]
   omega
 · refine CB.tick (w:={ w with Deeds:=(w.Deeds++[(Deed.mk 4 0 (Span.mk 0 0 0 0 false ([]:List Attr)) 0 0 0 false false 0 0 0 w.W.Now w.Time w.Time w.Time)]) }) (h.deed ⟨fun hq=>(by cases hq),fun hq=>absurd rfl hq⟩ ?_) hn
   have q0:(w.Time==(-1))=false:=by simp;have:=h.tm;omega
   unfold jC
   simp only [q0]
   rfl
theorem b6b {α:Type} {f:α→Int}:∀{l:List α},(∀x∈l,f x=0)→aY f l=0
 | [],_=>rfl
 | a :: l,h=>by
   show f a+aY f l=0
   rw [h a (by simp),b6b (fun x hx=>h x (by simp [hx]))];rfl
theorem a2o {c:Conf} (h:dH c=true):(bF c).Deeds=[]∧(bF c).Out=[]∧(bF c).Queue=[]∧(bF c).Time=0∧(bF c).Tasks=List.replicate 5 pM∧(bF c).Cache=[]∧(∀s∈(bF c).St,s=Stripe.mk (-1) [])∧(bF c).Due=[]∧(bF c).W=bT∧(bF c).C=c∧(bF c).Next=1∧(bF c).Used=0∧(bF c).Shut=false∧(bF c).RuleHeld=-1∧(bF c).B=dQ c.Rate c.Burst∧(bF c).St.length=c.Stripes.toNat:=by
 unfold bF
 rw [h,Bool.not_true,cond_false]
 obtain ⟨v,e,hl,hv⟩:=sT (b:=lJ) (P:=fun i (s:List Stripe)=>s.length=i∧∀x∈s,x=Stripe.mk (-1) []) (fun i s hs=>⟨_,rfl,by rw [jP,hs.1],fun x hx=>by
  rcases List.mem_append.1 hx with hx | hx
  · exact hs.2 x hx
  · exact List.mem_singleton.1 hx⟩) c.Stripes.toNat 0 [] ⟨rfl,fun _ h=>(by cases h)⟩
 have e3:cJ qM 0 ([]:List Task) ((5:Int)).toNat=.fin (List.replicate 5 (Task.mk 0 0 (Span.mk 0 0 0 0 false ([]:List Attr)) 0 0 ([]:List Item) 0)):=rfl
 show (fun w:World=>w.Deeds=[]∧w.Out=[]∧w.Queue=[]∧w.Time=0∧w.Tasks=List.replicate 5 pM∧w.Cache=[]∧(∀s∈w.St,s=Stripe.mk (-1) [])∧w.Due=[]∧w.W=bT∧w.C=c∧w.Next=1∧w.Used=0∧w.Shut=false∧w.RuleHeld=-1∧w.B=dQ c.Rate c.Burst∧w.St.length=c.Stripes.toNat) (Fin.get _ (cJ lJ 0 ([]:List Stripe) c.Stripes.toNat))
 rw [e,Fin.get_fin,e3,Fin.get_fin,wM]
 exact ⟨rfl,rfl,rfl,rfl,rfl,rfl,hv,rfl,rfl,rfl,rfl,rfl,rfl,rfl,rfl,by show v.length=_;omega⟩
theorem d6c {c:Conf} (h:dH c=true):CB 0 0 (bF c):=by
 obtain ⟨h1,h2,h3,h4,h5,_,h6,_⟩:=a2o h
 refine ⟨?_,by rw [h4];decide,by rw [h5];rfl,fun k hk=>?_,by rw [h1];exact fun d hd=>(by cases hd)⟩
 · rw [h1,h2,h3,h5,b6b (f:=spS) (fun s hs=>by rw [h6 s hs];rfl)];rfl
 · rw [h5]
   have e:(List.replicate 5 pM)[k]?.getD default=pM:=by rw [List.getElem?_replicate,if_pos hk];rfl
   rw [e];exact a7x
theorem wA {α:Type} {b:Nat→Unit→α→Step Unit Bool} {k:Unit→Bool} {P:Nat→α→Prop} (h1:∀i a,P i a→b i () a=.next ()) (h2:∀i a,¬P i a→b i () a=.done false):∀(l:List α) (i:Nat),Fin.get k (aJ b i () l)=true↔(∀j (hj:j < l.length),P (i+j) l[j])∧k ()=true
 | [],i=>by
   show k ()=true↔_
   exact ⟨fun h=>⟨fun j hj=>absurd hj (Nat.not_lt_zero _),h⟩,fun h=>h.2⟩
 | a :: l,i=>by
   by_cases hp:P i a
   · have e:aJ b i () (a :: l)=aJ b (i+1) () l:=by
      rw [aJ,h1 i a hp]
     rw [e,wA h1 h2 l (i+1)]
     refine ⟨fun h=>⟨fun j hj=>?_,h.2⟩,fun h=>⟨fun j hj=>?_,h.2⟩⟩
     · cases j with
       | zero=>exact hp
       | succ j=>rw [show i+(j+1)=i+1+j by omega];exact h.1 j (Nat.lt_of_succ_lt_succ hj)
     · have:=h.1 (j+1) (Nat.succ_lt_succ hj)
       rw [show i+(j+1)=i+1+j by omega] at this
       exact this
   · have e:aJ b i () (a :: l)=.done false:=by
      rw [aJ,h2 i a hp];rfl
     rw [e]
     exact ⟨fun h=>(by cases h),fun h=>absurd (h.1 0 (Nat.zero_lt_succ _)) hp⟩
theorem a6t {b:Nat→Unit→Step Unit Bool} {k:Unit→Bool} {P:Nat→Prop} (h1:∀i,P i→b i ()=.next ()) (h2:∀i,¬P i→b i ()=.done false):∀(n i:Nat),Fin.get k (cJ b i () n)=true↔(∀j,j < n→P (i+j))∧k ()=true
 | 0,i=>by
   show k ()=true↔_
   exact ⟨fun h=>⟨fun j hj=>absurd hj (Nat.not_lt_zero _),h⟩,fun h=>h.2⟩
 | n+1,i=>by
   by_cases hp:P i
   · have e:cJ b i () (n+1)=cJ b (i+1) () n:=by
      rw [cJ,h1 i hp]
     rw [e,a6t h1 h2 n (i+1)]
     refine ⟨fun h=>⟨fun j hj=>?_,h.2⟩,fun h=>⟨fun j hj=>?_,h.2⟩⟩
     · cases j with
       | zero=>exact hp
       | succ j=>rw [show i+(j+1)=i+1+j by omega];exact h.1 j (Nat.lt_of_succ_lt_succ hj)
     · have:=h.1 (j+1) (Nat.succ_lt_succ hj)
       rw [show i+(j+1)=i+1+j by omega] at this
       exact this
   · have e:cJ b i () (n+1)=.done false:=by
      rw [cJ,h2 i hp];rfl
     rw [e]
     exact ⟨fun h=>(by cases h),fun h=>absurd (h.1 0 (Nat.zero_lt_succ _)) hp⟩
theorem b1r {ρ:Type} {b:Nat→Unit→Step Unit ρ} {r:ρ} {P:Nat→Prop} (h1:∀i,P i→b i ()=.done r) (h2:∀i,¬P i→b i ()=.next ()):∀(n i:Nat),((∃j,j < n∧P (i+j))∧cJ b i () n=.done r)∨((∀j,j < n→¬P (i+j))∧cJ b i () n=.fin ())
 | 0,i=>.inr ⟨fun j hj=>absurd hj (Nat.not_lt_zero _),rfl⟩
 | n+1,i=>by
   by_cases hp:P i
   · refine .inl ⟨⟨0,Nat.zero_lt_succ _,hp⟩,?_⟩
     rw [cJ,h1 i hp];rfl
   · have e:cJ b i () (n+1)=cJ b (i+1) () n:=by
      rw [cJ,h2 i hp]
     rw [e]
     rcases b1r h1 h2 n (i+1) with ⟨⟨j,hj,hq⟩,hl⟩ | ⟨hq,hl⟩
     · exact .inl ⟨⟨j+1,Nat.succ_lt_succ hj,by rw [show i+(j+1)=i+1+j by omega];exact hq⟩,hl⟩
     · refine .inr ⟨fun j hj=>?_,hl⟩
       cases j with
       | zero=>exact hp
       | succ j=>rw [show i+(j+1)=i+1+j by omega];exact hq j (Nat.lt_of_succ_lt_succ hj)
theorem a4m {w:Wheel} {l:List Timer} {p k:Int}:cW w l p k=true↔∀t∈l,SlotT w.Now p k t:=by
 unfold cW
 rw [wA (P:=fun _ t=>SlotT w.Now p k t) (fun i t ht=>?_) (fun i t ht=>?_)]
 · refine ⟨fun h t ht=>?_,fun h=>⟨fun j hj=>h _ (List.getElem_mem hj),rfl⟩⟩
   obtain ⟨j,hj,rfl⟩:=List.getElem_of_mem ht
   exact h.1 j hj
 · unfold lI
   rw [decide_eq_false (by have:=ht.id;omega),cond_false,bD.2 ht.tr,Bool.not_true,cond_false,bD.2 ht.at',Bool.not_true,cond_false,show ((bC w.Now t.At).1 != p)=false by simp [ht.p1],cond_false,show ((bC w.Now t.At).2 != k)=false by simp [ht.p2],cond_false]
 · unfold lI
   refine aH (P:=fun z:Step Unit Bool=>z=.done false) (fun _=>rfl) (fun h1=>aH (P:=fun z:Step Unit Bool=>z=.done false) (fun _=>rfl) (fun h2=>aH (P:=fun z:Step Unit Bool=>z=.done false) (fun _=>rfl) (fun h3=>aH (P:=fun z:Step Unit Bool=>z=.done false) (fun _=>rfl) (fun h4=>aH (P:=fun z:Step Unit Bool=>z=.done false) (fun _=>rfl) (fun h5=>?_)))))
   rw [decide_eq_false_iff_not] at h1
   exact absurd ⟨by omega,bD.1 (by simpa using h2),bD.1 (by simpa using h3),by simpa using h4,by simpa using h5⟩ ht
def oN (l:List Timer):Prop:=(l.map Timer.Id).Nodup
theorem b7w {l:List Timer}:(∀j (hj:j < l.length),∀k,k < j→¬(l[k]?.getD default).Id=l[j].Id)↔oN l:=by
 unfold oN
 rw [List.nodup_iff_pairwise_ne,List.pairwise_iff_getElem]
 refine ⟨fun h i j hi hj hij=>?_,fun h j hj k hk e=>?_⟩
 · have hi':i < l.length:=by simpa using hi
   have hj':j < l.length:=by simpa using hj
   have:=h j hj' i hij
   rw [List.getElem?_eq_getElem hi'] at this
   simpa using this
 · have hk':k < l.length:=by omega
   have:=h k j (by simpa using hk') (by simpa using hj) hk
   rw [List.getElem?_eq_getElem hk'] at e
   simp at this
   exact this e
theorem yJ {w:Wheel}:cM w=true↔WhOk w∧oN (aI w):=by
 have hf:∀(i:Nat) (a:Timer),(∃j,j < i∧((aI w)[0+j]?.getD default).Id=a.Id)∧iO w i () a=.done false∨(∀j,j < i→¬((aI w)[0+j]?.getD default).Id=a.Id)∧iO w i () a=.next ():=by
  intro i a
  unfold iO
  rcases b1r (b:=dE w a) (r:=(.done false:Step Unit Bool)) (P:=fun k=>((aI w)[k]?.getD default).Id=a.Id) (fun k hk=>by unfold dE;rw [hk];simp) (fun k hk=>by unfold dE;rw [show (((aI w)[k]?.getD default).Id==a.Id)=false by simpa using hk];rfl) i 0 with ⟨h,e⟩ | ⟨h,e⟩
  · exact .inl ⟨h,by rw [e];rfl⟩
  · exact .inr ⟨h,by rw [e];rfl⟩
 refine ⟨fun h=>?_,fun ⟨hw,hu⟩=>?_⟩
 · have hw:=gZ h
   refine ⟨hw,?_⟩
   unfold cM at h
   rw [show ((((w.Near).length:Nat):Int) != 8)=false by have:=hw.nl;simp;omega,cond_false,show ((((w.Far).length:Nat):Int) != 8)=false by have:=hw.fl;simp;omega,cond_false,bD.2 hw.now,Bool.not_true,cond_false,a4m.2 hw.rest,Bool.not_true,cond_false] at h
   rw [a6t (P:=fun j=>cW w (w.Near[j]?.getD default) 1 (j:Int)=true∧cW w (w.Far[j]?.getD default) 2 (j:Int)=true) (fun i hi=>by unfold gL;rw [hi.1,hi.2];rfl) (fun i hi=>by
    unfold gL
    cases h1:cW w (w.Near[i]?.getD default) 1 (i:Int) with
    | false=>rfl
    | true =>
      cases h2:cW w (w.Far[i]?.getD default) 2 (i:Int) with
      | false=>rfl
      | true=>exact absurd ⟨h1,h2⟩ hi)] at h
   have h:=h.2
   rw [wA (P:=fun i a=>∀j,j < i→¬((aI w)[0+j]?.getD default).Id=a.Id) (fun i a hi=>by
    rcases hf i a with ⟨⟨j,hj,he⟩,_⟩ | ⟨_,e⟩
    · exact absurd he (hi j hj)
    · exact e) (fun i a hi=>by
    rcases hf i a with ⟨_,e⟩ | ⟨hn,_⟩
    · exact e
    · exact absurd hn hi)] at h
   refine b7w.1 fun j hj k hk=>?_
   have:=h.1 j hj k (by omega)
   rw [Nat.zero_add] at this
   exact this
 · unfold cM
   rw [show ((((w.Near).length:Nat):Int) != 8)=false by have:=hw.nl;simp;omega,cond_false,show ((((w.Far).length:Nat):Int) != 8)=false by have:=hw.fl;simp;omega,cond_false,bD.2 hw.now,Bool.not_true,cond_false,a4m.2 hw.rest,Bool.not_true,cond_false]
   rw [a6t (P:=fun j=>cW w (w.Near[j]?.getD default) 1 (j:Int)=true∧cW w (w.Far[j]?.getD default) 2 (j:Int)=true) (fun i hi=>by unfold gL;rw [hi.1,hi.2];rfl) (fun i hi=>by
    unfold gL
    cases h1:cW w (w.Near[i]?.getD default) 1 (i:Int) with
    | false=>rfl
    | true =>
      cases h2:cW w (w.Far[i]?.getD default) 2 (i:Int) with
      | false=>rfl
      | true=>exact absurd ⟨h1,h2⟩ hi)]
   refine ⟨fun j hj=>?_,?_⟩
   · rw [Nat.zero_add];exact ⟨a4m.2 (hw.near j hj),a4m.2 (hw.far j hj)⟩
   · rw [wA (P:=fun i a=>∀j,j < i→¬((aI w)[0+j]?.getD default).Id=a.Id) (fun i a hi=>by
      rcases hf i a with ⟨⟨j,hj,he⟩,_⟩ | ⟨_,e⟩
      · exact absurd he (hi j hj)
      · exact e) (fun i a hi=>by
      rcases hf i a with ⟨_,e⟩ | ⟨hn,_⟩
      · exact e
      · exact absurd hn hi)]
     refine ⟨fun j hj k hk=>?_,decide_eq_true (by have:=hw.len;omega)⟩
     rw [Nat.zero_add]
     exact b7w.2 hu j hj k (by omega)
theorem a9o {now at':Int} (h0:0≤now∧now≤2147483647) (h1:0≤at'∧at'≤2147483647):bC now at'=if at' / 8=now / 8 then (1,at' % 8) else if at' / 8 - now / 8 < 8 then (2,at' / 8 % 8) else (3,0):=by
 unfold bC
 have e1:IntKind.i64.wrap (Int.tdiv at' 8)=at' / 8:=by rw [Int.tdiv_eq_ediv_of_nonneg h1.1];exact Go.Ev.wrap_small (by omega) (by omega)
 have e2:IntKind.i64.wrap (Int.tdiv now 8)=now / 8:=by rw [Int.tdiv_eq_ediv_of_nonneg h0.1];exact Go.Ev.wrap_small (by omega) (by omega)
 rw [e1,e2,Int.tmod_eq_emod_of_nonneg h1.1,Int.tmod_eq_emod_of_nonneg (a:=at' / 8) (by omega),Go.Ev.wrap_small (n:=at' / 8 - now / 8) (by omega) (by omega)]
 by_cases c1:at' / 8=now / 8
 · rw [if_pos c1,show (at' / 8==now / 8)=true by simpa using c1];rfl
 · rw [if_neg c1,show (at' / 8==now / 8)=false by simpa using c1,cond_false]
   by_cases c2:at' / 8 - now / 8 < 8
   · rw [if_pos c2,decide_eq_true c2];rfl
   · rw [if_neg c2,decide_eq_false c2];rfl
structure ValT (now:Int) (t:Timer):Prop where
 id:1≤t.Id
 tr:1≤t.Trace∧t.Trace≤999
 at':now+1≤t.At∧t.At≤2147483647
theorem kB {now p k:Int} {t:Timer} (h0:0≤now∧now < 2147483647):SlotT now p k t↔ValT now t∧((p=1∧t.At / 8=now / 8∧k=t.At % 8)∨(p=2∧t.At / 8≠now / 8∧t.At / 8 - now / 8 < 8∧k=t.At / 8 % 8)∨(p=3∧k=0∧8≤t.At / 8 - now / 8)):=by
 have hw:IntKind.i64.wrap (now+1)=now+1:=Go.Ev.wrap_small (by omega) (by omega)
 constructor
 · intro h
   have ha:=h.at'
   rw [hw] at ha
   refine ⟨⟨h.id,h.tr,ha⟩,?_⟩
   have h1:=h.p1
   have h2:=h.p2
   rw [a9o (by omega) (by omega)] at h1 h2
   by_cases c1:t.At / 8=now / 8
   · rw [if_pos c1] at h1 h2
     exact .inl ⟨h1.symm,c1,h2.symm⟩
   · rw [if_neg c1] at h1 h2
     by_cases c2:t.At / 8 - now / 8 < 8
     · rw [if_pos c2] at h1 h2
       exact .inr (.inl ⟨h1.symm,c1,c2,h2.symm⟩)
     · rw [if_neg c2] at h1 h2
       exact .inr (.inr ⟨h1.symm,h2.symm,by omega⟩)
 · rintro ⟨⟨h1,h2,h3⟩,h4⟩
   have hp:=a9o (now:=now) (at':=t.At) (by omega) (by omega)
   refine ⟨h1,h2,by rw [hw];exact h3,?_,?_⟩ <;> rw [hp]
   · rcases h4 with ⟨rfl,c1,_⟩ | ⟨rfl,c1,c2,_⟩ | ⟨rfl,_,c2⟩
     · rw [if_pos c1]
     · rw [if_neg c1,if_pos c2]
     · rw [if_neg (by omega),if_neg (by omega)]
   · rcases h4 with ⟨rfl,c1,e⟩ | ⟨rfl,c1,c2,e⟩ | ⟨rfl,e,c2⟩
     · rw [if_pos c1];exact e.symm
     · rw [if_neg c1,if_pos c2];exact e.symm
     · rw [if_neg (by omega),if_neg (by omega)];exact e.symm
structure WhS (w:Wheel):Prop where
 nl:w.Near.length=8
 fl:w.Far.length=8
 now:0≤w.Now∧w.Now≤2147483647
 near:∀j:Nat,j < 8→∀t∈w.Near[j]?.getD default,SlotT w.Now 1 (j:Int) t
 far:∀j:Nat,j < 8→∀t∈w.Far[j]?.getD default,SlotT w.Now 2 (j:Int) t
 rest:∀t∈w.Rest,SlotT w.Now 3 0 t
theorem WhOk.s {w:Wheel} (h:WhOk w):WhS w:=⟨h.nl,h.fl,h.now,h.near,h.far,h.rest⟩
theorem WhS.ok {w:Wheel} (h:WhS w) (hl:(aI w).length≤16):WhOk w:=⟨h.nl,h.fl,h.now,h.near,h.far,h.rest,hl⟩
theorem a5e {α:Type} {x:List α}:∀{l:List (List α)} {s:Nat},s < l.length→((l.set s x).flatMap id).Perm (x++(l.set s []).flatMap id)
 | a :: l,0,_=>by
   show ((x :: l).flatMap id).Perm (x++([] :: l).flatMap id)
   rw [List.flatMap_cons,List.flatMap_cons];exact .refl _
 | a :: l,s+1,h=>by
   show ((a :: l.set s x).flatMap id).Perm (x++(a :: l.set s []).flatMap id)
   rw [List.flatMap_cons,List.flatMap_cons]
   have:=a5e (x:=x) (l:=l) (s:=s) (Nat.lt_of_succ_lt_succ h)
   show (a++(l.set s x).flatMap id).Perm (x++(a++(l.set s []).flatMap id))
   refine (this.append_left a).trans ?_
   rw [←List.append_assoc,←List.append_assoc]
   exact List.perm_append_comm.append_right _
theorem a5f {α:Type} {l:List (List α)} {s:Nat} (h:s < l.length):(l.flatMap id).Perm ((l[s]?.getD default)++(l.set s []).flatMap id):=by
 have e:l.set s (l[s]?.getD default)=l:=by
  rw [List.getElem?_eq_getElem h]
  exact List.set_getElem_self h
 have:=a5e (x:=l[s]?.getD default) h
 rw [e] at this;exact this
theorem b9v {α:Type} {l:List (List α)} {s:Nat} {t:α} (h:s < l.length):((l.set s ((l[s]?.getD default)++[t])).flatMap id).Perm (t :: l.flatMap id):=by
 refine (a5e h).trans ?_
 have h2:=(a5f h).symm
 have h3:((l[s]?.getD default++[t])++(l.set s []).flatMap id).Perm (t :: ((l[s]?.getD default)++(l.set s []).flatMap id)):=by
  rw [List.append_assoc]
  exact List.perm_middle
 exact h3.trans (h2.cons t)
theorem b8e {P:Nat→Timer→Prop} {l:List (List Timer)} {s:Nat} {x:List Timer} (h:∀j:Nat,j < 8→∀t∈l[j]?.getD default,P j t) (hx:∀t∈x,P s t):∀j:Nat,j < 8→∀t∈(l.set s x)[j]?.getD default,P j t:=by
 intro j hj t ht
 rw [dT] at ht
 by_cases c:s=j∧s < l.length
 · rw [if_pos c] at ht;obtain ⟨rfl,_⟩:=c;exact hx t ht
 · rw [if_neg c] at ht;exact h j hj t ht
theorem b9j {w:Wheel} {t:Timer} (h:WhS w) (hn:w.Now < 2147483647) (ht:ValT w.Now t):WhS (fG w t)∧(fG w t).Now=w.Now∧(aI (fG w t)).Perm (t :: aI w):=by
 have h0:=h.now
 have ha:=ht.at'
 unfold fG
 have hp:=a9o (now:=w.Now) (at':=t.At) (by omega) (by omega)
 by_cases c1:t.At / 8=w.Now / 8
 · rw [if_pos c1] at hp
   rw [hp]
   show WhS { w with Near:=_ }∧w.Now=w.Now∧_
   have hs:(t.At % 8).toNat < 8:=by omega
   have hc:(((t.At % 8).toNat:Nat):Int)=t.At % 8:=by omega
   refine ⟨⟨(List.length_set ..).trans h.nl,h.fl,h.now,?_,h.far,h.rest⟩,rfl,?_⟩
   · refine b8e (P:=fun j t=>SlotT w.Now 1 (j:Int) t) h.near (fun u hu=>?_)
     rcases List.mem_append.1 hu with hu | hu
     · exact h.near _ hs u hu
     · obtain rfl:=List.mem_singleton.1 hu
       exact (kB (by omega)).2 ⟨ht,.inl ⟨rfl,c1,hc⟩⟩
   · rw [eB,eB]
     have:=b9v (l:=w.Near) (t:=t) (s:=(t.At % 8).toNat) (by rw [h.nl];exact hs)
     exact (this.append_right _).append_right _
 · rw [if_neg c1] at hp
   by_cases c2:t.At / 8 - w.Now / 8 < 8
   · rw [if_pos c2] at hp
     rw [hp]
     show WhS { w with Far:=_ }∧w.Now=w.Now∧_
     have hs:(t.At / 8 % 8).toNat < 8:=by omega
     have hc:(((t.At / 8 % 8).toNat:Nat):Int)=t.At / 8 % 8:=by omega
     refine ⟨⟨h.nl,(List.length_set ..).trans h.fl,h.now,h.near,?_,h.rest⟩,rfl,?_⟩
     · refine b8e (P:=fun j t=>SlotT w.Now 2 (j:Int) t) h.far (fun u hu=>?_)
       rcases List.mem_append.1 hu with hu | hu
       · exact h.far _ hs u hu
       · obtain rfl:=List.mem_singleton.1 hu
         exact (kB (by omega)).2 ⟨ht,.inr (.inl ⟨rfl,c1,c2,hc⟩)⟩
     · rw [eB,eB]
       have:=b9v (l:=w.Far) (t:=t) (s:=(t.At / 8 % 8).toNat) (by rw [h.fl];exact hs)
       exact ((this.append_left _).trans List.perm_middle).append_right _
   · rw [if_neg c2] at hp
     rw [hp]
     show WhS { w with Rest:=_ }∧w.Now=w.Now∧_
     refine ⟨⟨h.nl,h.fl,h.now,h.near,h.far,fun u hu=>?_⟩,rfl,?_⟩
     · rcases List.mem_append.1 hu with hu | hu
       · exact h.rest u hu
       · obtain rfl:=List.mem_singleton.1 hu
         exact (kB (now:=w.Now) (by omega)).2 ⟨ht,.inr (.inr ⟨rfl,rfl,by omega⟩)⟩
     · rw [eB,eB]
       show ((w.Near.flatMap id++w.Far.flatMap id)++(w.Rest++[t])).Perm _
       rw [←List.append_assoc]
       exact (List.perm_append_singleton _ _)
theorem oN.perm {l m:List Timer} (h:l.Perm m) (hu:oN m):oN l:=((h.map Timer.Id).nodup_iff).2 hu
theorem c5v {w:Wheel} {t:Timer} (h:WhOk w) (hu:oN (aI w)) (hn:w.Now < 2147483647) (ht:ValT w.Now t) (hf:∀x∈aI w,x.Id≠t.Id) (hl:(aI w).length < 16) :
 WhOk (iW w t).1∧(iW w t).1.Now=w.Now∧(aI (iW w t).1).Perm (t :: aI w):=by
 obtain ⟨h1,h2,h3⟩:=b9j h.s hn ht
 have hok:WhOk (fG w t):=h1.ok (by rw [h3.length_eq,List.length_cons];omega)
 have huq:oN (aI (fG w t)):=oN.perm h3 (by
  unfold oN
  rw [List.map_cons,List.nodup_cons]
  refine ⟨fun hm=>?_,hu⟩
  obtain ⟨x,hx,e⟩:=List.mem_map.1 hm
  exact hf x hx e)
 have ha:=ht.at'
 unfold iW
 rw [cG,yJ.2 ⟨h,hu⟩,Bool.not_true,cond_false,decide_eq_false (by omega),cond_false,decide_eq_false (by omega),cond_false]
 simp only [aZ]
 rw [yJ.2 ⟨hok,huq⟩,Bool.not_true,cond_false]
 exact ⟨hok,h2,h3⟩
theorem ValT.later {now now':Int} {t:Timer} (h:ValT now t) (h2:now'+1≤t.At):ValT now' t:=⟨h.id,h.tr,h2,h.at'.2⟩
theorem d1j {w:Wheel} (h:WhOk w) (hu:oN (aI w)) (hn:w.Now < 2147483646) :
 WhOk (eV w).1∧(eV w).1.Now=w.Now+1∧((eV w).2++aI (eV w).1).Perm (aI w)∧∀t∈(eV w).2,t.At≤w.Now+1:=by
 have h0:=h.now
 have hw1:IntKind.i64.wrap (w.Now+1)=w.Now+1:=Go.Ev.wrap_small (by omega) (by omega)
 have hd1:IntKind.i64.wrap (Int.tdiv (w.Now+1) 8)=(w.Now+1) / 8:=by rw [Int.tdiv_eq_ediv_of_nonneg (by omega)];exact Go.Ev.wrap_small (by omega) (by omega)
 unfold eV
 rw [cG,yJ.2 ⟨h,hu⟩,Bool.not_true,cond_false,show (w.Now==2147483647)=false by simp;omega,cond_false,hw1,hd1,Int.tmod_eq_emod_of_nonneg (by omega),Int.tmod_eq_emod_of_nonneg (a:=(w.Now+1) / 8) (by omega)]
 have lift:∀(X:Wheel×List Timer),WhS X.1→X.1.Now=w.Now+1→(X.2++aI X.1).Perm (aI w)→(∀t∈X.2,t.At≤w.Now+1)→WhOk X.1∧X.1.Now=w.Now+1∧(X.2++aI X.1).Perm (aI w)∧∀t∈X.2,t.At≤w.Now+1:=by
  intro X a b c d
  refine ⟨a.ok ?_,b,c,d⟩
  have:=c.length_eq
  rw [List.length_append] at this
  have:=h.len
  omega
 by_cases c:(w.Now+1) % 8=0
 rotate_left
 · rw [show ((w.Now+1) % 8 != 0)=true by simpa using c,cond_true]
   have hs:((w.Now+1) % 8).toNat < 8:=by omega
   have hdiv:(w.Now+1) / 8=w.Now / 8:=by omega
   refine lift (_,_) ⟨(List.length_set ..).trans h.nl,h.fl,by show 0≤w.Now+1∧w.Now+1≤_;omega,?_,?_,?_⟩ rfl ?_ ?_
   · intro j hj t ht
     have ht:t∈(w.Near.set ((w.Now+1) % 8).toNat [])[j]?.getD default:=ht
     rw [dT] at ht
     by_cases q:((w.Now+1) % 8).toNat=j∧((w.Now+1) % 8).toNat < w.Near.length
     · rw [if_pos q] at ht;cases ht
     · rw [if_neg q] at ht
       obtain ⟨hv,hk⟩:=(kB (by omega)).1 (h.near j hj t ht)
       rcases hk with ⟨_,k1,k2⟩ | ⟨k0,_⟩ | ⟨k0,_⟩
       · have hne:t.At≠w.Now+1:=fun e=>q ⟨by rw [←e,←k2];exact Int.toNat_natCast j,by rw [h.nl];exact hs⟩
         have:=hv.at'
         exact (kB (now:=w.Now+1) (by omega)).2 ⟨hv.later (by omega),.inl ⟨rfl,by omega,k2⟩⟩
       · cases k0
       · cases k0
   · intro j hj t ht
     obtain ⟨hv,hk⟩:=(kB (by omega)).1 (h.far j hj t ht)
     rcases hk with ⟨k0,_⟩ | ⟨_,k1,k2,k3⟩ | ⟨k0,_⟩
     · cases k0
     · have:=hv.at'
       exact (kB (now:=w.Now+1) (by omega)).2 ⟨hv.later (by omega),.inr (.inl ⟨rfl,by omega,by omega,k3⟩)⟩
     · cases k0
   · intro t ht
     obtain ⟨hv,hk⟩:=(kB (by omega)).1 (h.rest t ht)
     rcases hk with ⟨k0,_⟩ | ⟨k0,_⟩ | ⟨_,k1,k2⟩
     · cases k0
     · cases k0
     · have:=hv.at'
       exact (kB (now:=w.Now+1) (by omega)).2 ⟨hv.later (by omega),.inr (.inr ⟨rfl,rfl,by omega⟩)⟩
   · show ((w.Near[((w.Now+1) % 8).toNat]?.getD default)++aI _).Perm _
     rw [eB,eB,←List.append_assoc,←List.append_assoc]
     exact ((a5f (by rw [h.nl];exact hs)).symm.append_right _).append_right _
   · intro t ht
     obtain ⟨hv,hk⟩:=(kB (by omega)).1 (h.near _ hs t ht)
     rcases hk with ⟨_,k1,k2⟩ | ⟨k0,_⟩ | ⟨k0,_⟩
     · omega
     · cases k0
     · cases k0
 · rw [show ((w.Now+1) % 8 != 0)=false by simp [c],cond_false,c]
   have hnear:∀j:Nat,w.Near[j]?.getD default=[]:=by
    intro j
    by_cases hj:j < 8
    · cases e:w.Near[j]?.getD default with
      | nil=>rfl
      | cons t l =>
        obtain ⟨hv,hk⟩:=(kB (by omega)).1 (h.near j hj t (by rw [e];exact List.mem_cons_self ..))
        have:=hv.at'
        rcases hk with ⟨_,k1,k2⟩ | ⟨k0,_⟩ | ⟨k0,_⟩
        · omega
        · cases k0
        · cases k0
    · rw [List.getElem?_eq_none (by rw [h.nl];omega)];rfl
   have hk8:((w.Now+1) / 8 % 8).toNat < 8:=by omega
   have hS0:WhS (Wheel.mk (w.Now+1) (List.set w.Near ((0:Int)).toNat []) (List.set w.Far ((w.Now+1) / 8 % 8).toNat []) []):=by
    refine ⟨(List.length_set ..).trans h.nl,(List.length_set ..).trans h.fl,by show 0≤w.Now+1∧w.Now+1≤_;omega,?_,?_,fun t ht=>(by cases ht)⟩
    · intro j hj t ht
      have ht:t∈(w.Near.set ((0:Int)).toNat [])[j]?.getD default:=ht
      rw [dT,hnear j] at ht
      by_cases q:((0:Int)).toNat=j∧((0:Int)).toNat < w.Near.length
      · rw [if_pos q] at ht;cases ht
      · rw [if_neg q] at ht;cases ht
    · intro j hj t ht
      have ht:t∈(w.Far.set ((w.Now+1) / 8 % 8).toNat [])[j]?.getD default:=ht
      rw [dT] at ht
      by_cases q:((w.Now+1) / 8 % 8).toNat=j∧((w.Now+1) / 8 % 8).toNat < w.Far.length
      · rw [if_pos q] at ht;cases ht
      · rw [if_neg q] at ht
        obtain ⟨hv,hk⟩:=(kB (by omega)).1 (h.far j hj t ht)
        rcases hk with ⟨k0,_⟩ | ⟨_,k1,k2,k3⟩ | ⟨k0,_⟩
        · cases k0
        · have:=hv.at'
          have hne:t.At / 8≠(w.Now+1) / 8:=fun e=>q ⟨by rw [←e,←k3];exact Int.toNat_natCast j,by rw [h.fl];exact hk8⟩
          exact (kB (now:=w.Now+1) (by omega)).2 ⟨hv.later (by omega),.inr (.inl ⟨rfl,hne,by omega,k3⟩)⟩
        · cases k0
   have hval:∀t∈(w.Far[((w.Now+1) / 8 % 8).toNat]?.getD default)++w.Rest,ValT w.Now t:=by
    intro t ht
    rcases List.mem_append.1 ht with ht | ht
    · exact ((kB (by omega)).1 (h.far _ hk8 t ht)).1
    · exact ((kB (by omega)).1 (h.rest t ht)).1
   have key:∀(l:List Timer) (i:Nat) (s:Wheel×List Timer),(∀t∈l,ValT w.Now t)→WhS s.1→s.1.Now=w.Now+1→(∀t∈s.2,t.At≤w.Now+1)→∃v,aJ kI i s l=.fin v∧WhS v.1∧v.1.Now=w.Now+1∧(v.2++aI v.1).Perm (l++(s.2++aI s.1))∧∀t∈v.2,t.At≤w.Now+1:=by
    intro l
    induction l with
    | nil=>intro i s _ hs hn' hd;exact ⟨s,rfl,hs,hn',.refl _,hd⟩
    | cons a l ih =>
      intro i s hl hs hn' hd
      have hva:=hl a (List.mem_cons_self ..)
      by_cases ca:a.At≤w.Now+1
      · obtain ⟨v,e,v1,v2,v3,v4⟩:=ih (i+1) (s.1,s.2++[a]) (fun t ht=>hl t (List.mem_cons_of_mem _ ht)) hs hn' (fun t ht=>by
         rcases List.mem_append.1 ht with ht | ht
         · exact hd t ht
         · obtain rfl:=List.mem_singleton.1 ht;exact ca)
        refine ⟨v,?_,v1,v2,?_,v4⟩
        · have e0:kI i s a=.next (s.1,s.2++[a]):=by unfold kI;rw [hn',decide_eq_true ca];rfl
          rw [aJ,e0];exact e
        · refine v3.trans ?_
          show (l++((s.2++[a])++aI s.1)).Perm (a :: (l++(s.2++aI s.1)))
          rw [List.append_assoc,←List.append_assoc l,←List.append_assoc l]
          exact List.perm_middle
      · have hp:=b9j (t:=a) hs (by rw [hn'];omega) (by rw [hn'];exact hva.later (by omega))
        obtain ⟨v,e,v1,v2,v3,v4⟩:=ih (i+1) (fG s.1 a,s.2) (fun t ht=>hl t (List.mem_cons_of_mem _ ht)) hp.1 (hp.2.1.trans hn') hd
        refine ⟨v,?_,v1,v2,?_,v4⟩
        · have e0:kI i s a=.next (fG s.1 a,s.2):=by unfold kI;rw [hn',decide_eq_false ca];rfl
          rw [aJ,e0];exact e
        · refine v3.trans ?_
          show (l++(s.2++aI (fG s.1 a))).Perm (a :: (l++(s.2++aI s.1)))
          refine ((hp.2.2.append_left s.2).append_left l).trans ?_
          rw [←List.append_assoc,←List.append_assoc]
          exact List.perm_middle
   have hn0:w.Near[((0:Int)).toNat]?.getD default=[]:=hnear _
   rw [hn0]
   obtain ⟨v,e,v1,v2,v3,v4⟩:=key ((w.Far[((w.Now+1) / 8 % 8).toNat]?.getD default)++w.Rest) 0 ((Wheel.mk (w.Now+1) (List.set w.Near ((0:Int)).toNat []) (List.set w.Far ((w.Now+1) / 8 % 8).toNat []) []),([]:List Timer)) hval hS0 rfl (fun t ht=>(by cases ht))
   rw [e]
   refine lift v v1 v2 (v3.trans ?_) v4
   rw [eB,eB]
   show ((w.Far[((w.Now+1) / 8 % 8).toNat]?.getD default++w.Rest)++([]++(((List.set w.Near ((0:Int)).toNat []).flatMap id++(List.set w.Far ((w.Now+1) / 8 % 8).toNat []).flatMap id)++[]))).Perm _
   have z1:(List.set w.Near ((0:Int)).toNat []).flatMap id=[]∧w.Near.flatMap id=[]:=by
    have q:∀l:List (List Timer),(∀j:Nat,l[j]?.getD default=[])→l.flatMap id=[]:=by
     intro l hl
     rw [List.flatMap_eq_nil_iff]
     intro x hx
     obtain ⟨j,hj,rfl⟩:=List.getElem_of_mem hx
     have:=hl j
     rw [List.getElem?_eq_getElem hj] at this
     exact this
    refine ⟨q _ (fun j=>?_),q _ hnear⟩
    rw [dT,hnear j]
    split <;> rfl
   rw [z1.1,z1.2,List.nil_append,List.nil_append,List.append_nil,List.nil_append]
   refine List.Perm.trans ?_ ((a5f (s:=((w.Now+1) / 8 % 8).toNat) (by rw [h.fl];exact hk8)).symm.append_right _)
   rw [List.append_assoc,List.append_assoc]
   exact List.perm_append_comm.append_left _
theorem d7g {w:Wheel} {k:Int} (h:WhOk w) (hu:oN (aI w)) (hk:0≤k∧k≤200) (hn:w.Now+k < 2147483647) :
 WhOk (cV w k).1∧(cV w k).1.Now=w.Now+k∧((cV w k).2++aI (cV w k).1).Perm (aI w)∧∀t∈(cV w k).2,t.At≤w.Now+k:=by
 unfold cV
 rw [cG,bD.2 hk,Bool.not_true,cond_false]
 obtain ⟨v,e,hv⟩:=sT (b:=rT) (P:=fun i (s:Wheel×List Timer)=>(i:Int)≤k→WhOk s.1∧s.1.Now=w.Now+i∧(s.2++aI s.1).Perm (aI w)∧∀t∈s.2,t.At≤w.Now+i) (fun i s hs=>⟨_,rfl,fun hi=>by
  obtain ⟨a1,a2,a3,a4⟩:=hs (by omega)
  have hus:oN (aI s.1):=by
   have hu2:=oN.perm a3 hu
   unfold oN at hu2 ⊢
   rw [List.map_append] at hu2
   exact (List.nodup_append.1 hu2).2.1
  obtain ⟨b1,b2,b3,b4⟩:=d1j a1 hus (by rw [a2];omega)
  refine ⟨b1,by show (eV s.1).1.Now=_;rw [b2,a2];omega,?_,fun t ht=>?_⟩
  · show ((s.2++(eV s.1).2)++aI (eV s.1).1).Perm _
    rw [List.append_assoc]
    exact (b3.append_left s.2).trans a3
  · rcases List.mem_append.1 ht with ht | ht
    · have:=a4 t ht;omega
    · have:=b4 t ht;rw [a2] at this;omega⟩) k.toNat 0 (w,[]) (fun _=>⟨h,by show w.Now=w.Now+0;omega,.refl _,fun t ht=>(by cases ht)⟩)
 rw [e]
 have:=hv (by omega)
 rw [show (((0+k.toNat:Nat)):Int)=k by omega] at this
 exact this
theorem a4i (l:List Timer) (id:Int):dF l id=l.filter (fun t=>t.Id != id):=by
 unfold dF
 have key:∀(l:List Timer) (i:Nat) (s:List Timer),aJ (lE id) i s l=.fin (s++l.filter (fun t=>t.Id != id)):=by
  intro l
  induction l with
  | nil=>intro i s;simp [aJ]
  | cons a l ih =>
    intro i s
    rw [aJ]
    unfold lE
    cases c:(a.Id != id) with
    | true =>
      rw [List.filter_cons,if_pos c]
      show aJ (lE id) (i+1) (s++[a]) l=_
      rw [ih];simp
    | false =>
      rw [List.filter_cons,if_neg (by rw [c];simp)]
      exact ih (i+1) s
 rw [key,List.nil_append];rfl
theorem d7l {α:Type} [Inhabited α] {l m:List α} (h1:l.length=m.length) (h:∀j:Nat,l[j]?.getD default=m[j]?.getD default):l=m:=by
 apply List.ext_getElem h1
 intro j hj hk
 have:=h j
 rw [List.getElem?_eq_getElem hj,List.getElem?_eq_getElem hk] at this
 exact this
theorem a2y {α:Type} (p:α→Bool):∀l:List (List α),(l.map (List.filter p)).flatMap id=(l.flatMap id).filter p
 | []=>rfl
 | a :: l=>by
   rw [List.map_cons,List.flatMap_cons,List.flatMap_cons,List.filter_append,a2y p l];rfl
theorem b6i {w:Wheel} {id:Int} (h:WhOk w) (hu:oN (aI w)):WhOk (dI w id).1∧(dI w id).1.Now=w.Now∧aI (dI w id).1=(aI w).filter (fun t=>t.Id != id):=by
 unfold dI
 rw [cG,yJ.2 ⟨h,hu⟩,Bool.not_true,cond_false]
 obtain ⟨v,e,hv⟩:=sT (b:=tQ w id) (P:=fun i (s:List (List Timer)×List (List Timer))=>s.1.length=8∧s.2.length=8∧∀j:Nat,s.1[j]?.getD default=(if j < i∧j < 8 then (w.Near[j]?.getD default).filter (fun t=>t.Id != id) else w.Near[j]?.getD default)∧s.2[j]?.getD default=(if j < i∧j < 8 then (w.Far[j]?.getD default).filter (fun t=>t.Id != id) else w.Far[j]?.getD default)) (fun i s hs=>⟨_,rfl,by
  refine ⟨(List.length_set ..).trans hs.1,(List.length_set ..).trans hs.2.1,fun j=>?_⟩
  rw [a4i,a4i,dT,dT,hs.1,hs.2.1]
  have:=hs.2.2 j
  by_cases c:i=j∧i < 8
  · rw [if_pos c,if_pos c,if_pos (by omega),if_pos (by omega)]
    obtain ⟨rfl,_⟩:=c
    exact ⟨rfl,rfl⟩
  · rw [if_neg c,if_neg c,this.1,this.2]
    by_cases d:j < i∧j < 8
    · rw [if_pos d,if_pos d,if_pos (by omega),if_pos (by omega)];exact ⟨rfl,rfl⟩
    · rw [if_neg d,if_neg d,if_neg (by omega),if_neg (by omega)];exact ⟨rfl,rfl⟩⟩) ((8:Int)).toNat 0 (w.Near,w.Far) ⟨h.nl,h.fl,fun j=>by rw [if_neg (by omega),if_neg (by omega)];exact ⟨rfl,rfl⟩⟩
 rw [e]
 obtain ⟨l1,l2,hv⟩:=hv
 have key:∀(m u:List (List Timer)),m.length=8→u.length=8→(∀j:Nat,u[j]?.getD default=(if j < 0+((8:Int)).toNat∧j < 8 then (m[j]?.getD default).filter (fun t=>t.Id != id) else m[j]?.getD default))→u=m.map (List.filter (fun t=>t.Id != id)):=by
  intro m u hm hu8 hj
  refine d7l (by rw [List.length_map,hm,hu8]) (fun j=>?_)
  rw [hj j,List.getElem?_map]
  by_cases c:j < 8
  · rw [if_pos ⟨by show j < 0+8;omega,c⟩,List.getElem?_eq_getElem (by omega)];rfl
  · rw [if_neg (fun q=>c q.2),List.getElem?_eq_none (by omega)];rfl
 have e1:=key w.Near v.1 h.nl l1 (fun j=>(hv j).1)
 have e2:=key w.Far v.2 h.fl l2 (fun j=>(hv j).2)
 show WhOk (Wheel.mk w.Now v.1 v.2 (dF w.Rest id))∧w.Now=w.Now∧aI (Wheel.mk w.Now v.1 v.2 (dF w.Rest id))=_
 rw [a4i,e1,e2]
 have et:aI (Wheel.mk w.Now (w.Near.map (List.filter (fun t=>t.Id != id))) (w.Far.map (List.filter (fun t=>t.Id != id))) (w.Rest.filter (fun t=>t.Id != id)))=(aI w).filter (fun t=>t.Id != id):=by
  rw [eB,eB,List.filter_append,List.filter_append,←a2y,←a2y]
 have sub:∀(m:List (List Timer)) (j:Nat),∀t∈(m.map (List.filter (fun t=>t.Id != id)))[j]?.getD default,t∈m[j]?.getD default:=by
  intro m j t ht
  rw [List.getElem?_map] at ht
  cases q:m[j]? with
  | none=>rw [q] at ht;cases ht
  | some x=>rw [q] at ht;exact (List.mem_filter.1 ht).1
 refine ⟨⟨by show (w.Near.map _).length=8;rw [List.length_map];exact h.nl,by show (w.Far.map _).length=8;rw [List.length_map];exact h.fl,h.now,fun j hj t ht=>h.near j hj t (sub _ _ t ht),fun j hj t ht=>h.far j hj t (sub _ _ t ht),fun t ht=>h.rest t ((List.mem_filter.1 ht).1),?_⟩,rfl,et⟩
 rw [et]
 exact Nat.le_trans (List.length_filter_le _ _) h.len
theorem c1q:bT=Wheel.mk 0 (List.replicate 8 []) (List.replicate 8 []) []:=rfl
theorem a8u {n:Int} (hn:0≤n∧n≤2147483647):WhOk { bT with Now:=n }∧aI { bT with Now:=n }=[]:=by
 rw [c1q]
 have et:aI (Wheel.mk n (List.replicate 8 []) (List.replicate 8 []) [])=[]:=by rw [eB];rfl
 have q:∀j:Nat,((List.replicate 8 ([]:List Timer))[j]?.getD default)=[]:=by
  intro j
  rw [List.getElem?_replicate]
  split <;> rfl
 refine ⟨⟨rfl,rfl,hn,fun j _ t ht=>?_,fun j _ t ht=>?_,fun t ht=>(by cases ht),by rw [et];exact Nat.zero_le _⟩,et⟩
 · have ht:t∈(List.replicate 8 ([]:List Timer))[j]?.getD default:=ht
   rw [q j] at ht;cases ht
 · have ht:t∈(List.replicate 8 ([]:List Timer))[j]?.getD default:=ht
   rw [q j] at ht;cases ht
def bW (S:List Stripe):List Trail:=(S.map Stripe.L).flatMap id
theorem a4x {S:List Stripe} {i:Nat} {a:Int} {L:List Trail}:(S.set i (Stripe.mk a L)).map Stripe.L=(S.map Stripe.L).set i L:=by rw [List.map_set]
theorem b9c {S:List Stripe} {i:Nat}:(S.map Stripe.L)[i]?.getD default=(S[i]?.getD default).L:=by
 rw [List.getElem?_map]
 cases S[i]? <;> rfl
theorem mP {S:List Stripe} {i:Nat} {a:Int}:bW (S.set i (Stripe.mk a (S[i]?.getD default).L))=bW S:=by
 unfold bW
 rw [a4x]
 by_cases h:i < S.length
 · have h':i < (S.map Stripe.L).length:=by rw [List.length_map];exact h
   have:(S[i]?.getD default).L=(S.map Stripe.L)[i]:=by rw [←b9c,List.getElem?_eq_getElem h'];rfl
   rw [this,List.set_getElem_self]
 · rw [List.set_eq_of_length_le (by rw [List.length_map];omega)]
theorem b0q {S:List Stripe} {i:Nat} {a:Int} {L:List Trail} (h:i < S.length):(bW (S.set i (Stripe.mk a L))).Perm (L++bW (S.set i (Stripe.mk a []))):=by
 unfold bW
 rw [a4x,a4x]
 exact a5e (by rw [List.length_map];exact h)
theorem b0r {S:List Stripe} {i:Nat} {a:Int} (h:i < S.length):(bW S).Perm ((S[i]?.getD default).L++bW (S.set i (Stripe.mk a []))):=by
 unfold bW
 rw [a4x,←b9c]
 exact a5f (by rw [List.length_map];exact h)
theorem vO {S:List Stripe} {t:Trail}:t∈bW S↔∃i,i < S.length∧t∈(S[i]?.getD default).L:=by
 unfold bW
 rw [List.mem_flatMap]
 constructor
 · rintro ⟨l,hl,ht⟩
   obtain ⟨s,hs,rfl⟩:=List.mem_map.1 hl
   obtain ⟨i,hi,rfl⟩:=List.getElem_of_mem hs
   exact ⟨i,hi,by rw [List.getElem?_eq_getElem hi];exact ht⟩
 · rintro ⟨i,hi,ht⟩
   rw [List.getElem?_eq_getElem hi] at ht
   exact ⟨_,List.mem_map.2 ⟨_,List.getElem_mem hi,rfl⟩,ht⟩
def byT (t:Trail):Int:=aY cY t.Spans
theorem a2c {α:Type} {f:α→Int} {l m:List α} (h:l.Perm m):aY f l=aY f m:=by
 induction h with
 | nil=>rfl
 | cons x _ ih=>show f x+_=f x+_;rw [ih]
 | swap x y l=>show f y+(f x+aY f l)=f x+(f y+aY f l);omega
 | trans _ _ a b=>exact a.trans b
structure TrV (now next:Int) (t:Trail):Prop where
 id:1≤t.Id∧t.Id≤999
 st:1≤t.Stamp∧t.Stamp < next
 fi:0≤t.First∧t.First≤now
 ne:t.Spans≠[]
 sp:∀s∈t.Spans,eH s=true∧s.Trace=t.Id
def a2v (n:Int):Prop:=n=1∨n=2∨n=3∨n=4∨n=5∨n=999
structure StV (now next:Int) (S:List Stripe):Prop where
 ln:1≤S.length∧S.length≤16
 ix:∀i:Nat,i < S.length→∀t∈(S[i]?.getD default).L,(aD t.Id ((S.length:Nat):Int)).toNat=i
 so:∀i:Nat,(S[i]?.getD default).L.Pairwise (fun a b=>a.Id < b.Id)
 tv:∀t∈bW S,TrV now next t∧a2v t.Id
 su:((bW S).map Trail.Stamp).Nodup
theorem StV.lock {now next:Int} {S:List Stripe} (h:StV now next S) {i:Nat} {a:Int}:StV now next (S.set i (Stripe.mk a (S[i]?.getD default).L)):=by
 have hg:∀j:Nat,((S.set i (Stripe.mk a (S[i]?.getD default).L))[j]?.getD default).L=(S[j]?.getD default).L:=by
  intro j
  rw [dT]
  by_cases c:i=j∧i < S.length
  · rw [if_pos c];obtain ⟨rfl,_⟩:=c;rfl
  · rw [if_neg c]
 refine ⟨by rw [List.length_set];exact h.ln,fun j hj t ht=>?_,fun j=>?_,?_,?_⟩
 · rw [hg] at ht
   rw [List.length_set] at hj ⊢
   exact h.ix j hj t ht
 · rw [hg];exact h.so j
 · rw [mP];exact h.tv
 · rw [mP];exact h.su
theorem TrV.mono {now now' next next':Int} {t:Trail} (h:TrV now next t) (h1:now≤now') (h2:next≤next'):TrV now' next' t :=
 ⟨h.id,by have:=h.st;omega,by have:=h.fi;omega,h.ne,h.sp⟩
theorem StV.mono {now now' next next':Int} {S:List Stripe} (h:StV now next S) (h1:now≤now') (h2:next≤next'):StV now' next' S :=
 ⟨h.ln,h.ix,h.so,fun t ht=>⟨(h.tv t ht).1.mono h1 h2,(h.tv t ht).2⟩,h.su⟩
theorem StV.one {now next:Int} {S:List Stripe} (h:StV now next S) {t u:Trail} (ht:t∈bW S) (hu:u∈bW S) (e:t.Id=u.Id):t=u:=by
 obtain ⟨i,hi,ht⟩:=vO.1 ht
 obtain ⟨j,hj,hu⟩:=vO.1 hu
 have e1:=h.ix i hi t ht
 have e2:=h.ix j hj u hu
 rw [e,e2] at e1
 subst e1
 obtain ⟨a,ha,rfl⟩:=List.getElem_of_mem ht
 obtain ⟨b,hb,rfl⟩:=List.getElem_of_mem hu
 have hp:=List.pairwise_iff_getElem.1 (h.so j)
 rcases Nat.lt_trichotomy a b with c | c | c
 · have:=hp a b ha hb c;omega
 · subst c;rfl
 · have:=hp b a hb ha c;omega
theorem a6f {l:List Trail} {k:Int} (h:aL l k < 0):∀t∈l,t.Id≠k:=by
 have key:∀(l:List Trail) (i:Nat),(∃j:Nat,aJ (kS k) i () l=.done ((j:Nat):Int))∨(aJ (kS k) i () l=.fin ()∧∀t∈l,t.Id≠k):=by
  intro l
  induction l with
  | nil=>intro i;exact .inr ⟨rfl,fun t ht=>(by cases ht)⟩
  | cons a l ih =>
    intro i
    rw [aJ]
    unfold kS
    cases c:(a.Id==k) with
    | true=>exact .inl ⟨i,rfl⟩
    | false =>
      rcases ih (i+1) with h | ⟨h1,h2⟩
      · exact .inl h
      · refine .inr ⟨h1,fun t ht=>?_⟩
        rcases List.mem_cons.1 ht with rfl | ht
        · simpa using c
        · exact h2 t ht
 unfold aL at h
 rcases key l 0 with ⟨j,e⟩ | ⟨e,hl⟩
 · rw [e] at h
   have:((j:Nat):Int) < 0:=h
   omega
 · exact hl
theorem a9x {now next:Int} {S:List Stripe} (h:StV now next S) {k:Int} (hf:(aC S k).2=true):(aC S k).1∈bW S∧(aC S k).1.Id=k:=by
 obtain ⟨i,j,hi,h0,hj,hjl,ht,hid,hil⟩:=tX hf
 refine ⟨vO.2 ⟨i,hil,?_⟩,hid⟩
 rw [ht,List.getElem?_eq_getElem hjl]
 exact List.getElem_mem hjl
theorem c6p {now next:Int} {S:List Stripe} (h:StV now next S) {k:Int} (hf:(aC S k).2=false):∀t∈bW S,t.Id≠k:=by
 intro t ht e
 obtain ⟨i,hi,ht⟩:=vO.1 ht
 have hx:=h.ix i hi t ht
 rw [e] at hx
 unfold aC at hf
 rw [show (((S.length:Nat):Int)==0)=false by have:=h.ln;simp;intro q;rw [q] at this;exact absurd this.1 (by decide),cond_false,hx] at hf
 by_cases c:aL (S[i]?.getD default).L k < 0
 · exact a6f c t ht e
 · rw [decide_eq_false c,cond_false] at hf;cases hf
theorem c0d {now next:Int} {S:List Stripe} {n:Nat} (h:StV now next S) (hb:bdS Stripe.bd n S) (hn:n≤1000000) {k:Int} (hf:(aC S k).2=true) :
 StV now next (cE S (aC S k).1.Id)∧(bW S).Perm ((aC S k).1 :: bW (cE S (aC S k).1.Id))∧(cE S (aC S k).1.Id).length=S.length∧∀i:Nat,((cE S (aC S k).1.Id)[i]?.getD default).Held=(S[i]?.getD default).Held:=by
 obtain ⟨i,j,hi,h0,hj,hjl,ht,hid,hil⟩:=tX hf
 rw [hid]
 have hS:Stripe.bd n (S[i]?.getD default):=iM hb fN _
 have hl:(S[i]?.getD default).L.length≤n:=hS.1
 have hT:=bN (l:=(S[i]?.getD default).L) (k:=k)
 have e:cE S k=S.set i (Stripe.mk (S[i]?.getD default).Held ((S[i]?.getD default).L.take j++(S[i]?.getD default).L.drop (j+1))):=by
  unfold cE
  rw [←hi,eO,show (((S.length:Nat):Int)==0)=false by have:=h.ln;simp;intro q;rw [q] at this;exact absurd this.1 (by decide),cond_false,decide_eq_true (show aL (S[i]?.getD default).L k≥0 from h0),cond_true,Go.Ev.wrap_small (by omega) (by omega),←hj,show (aL (S[i]?.getD default).L k+1).toNat=j+1 by omega,Nat.sub_zero,List.drop_zero,(List.take_of_length_le (by rw [List.length_drop];exact Nat.le_refl _):List.take ((S[i]?.getD default).L.length - (j+1)) (List.drop (j+1) (S[i]?.getD default).L)=List.drop (j+1) (S[i]?.getD default).L)]
 have hsub:((S[i]?.getD default).L.take j++(S[i]?.getD default).L.drop (j+1)).Sublist (S[i]?.getD default).L:=by
  have:=List.eraseIdx_sublist (S[i]?.getD default).L j
  rw [List.eraseIdx_eq_take_drop_succ] at this
  exact this
 have hp:(bW S).Perm ((aC S k).1 :: bW (cE S k)):=by
  rw [e]
  have p1:=b0r (S:=S) (i:=i) (a:=(S[i]?.getD default).Held) hil
  have p2:=(b0q (S:=S) (i:=i) (a:=(S[i]?.getD default).Held) (L:=(S[i]?.getD default).L.take j++(S[i]?.getD default).L.drop (j+1)) hil).symm
  have p3:(S[i]?.getD default).L.Perm ((aC S k).1 :: ((S[i]?.getD default).L.take j++(S[i]?.getD default).L.drop (j+1))):=by
   rw [ht,List.getElem?_eq_getElem hjl]
   have e2:(S[i]?.getD default).L=(S[i]?.getD default).L.take j++(S[i]?.getD default).L[j] :: (S[i]?.getD default).L.drop (j+1):=by
    rw [←List.drop_eq_getElem_cons hjl,List.take_append_drop]
   have:=List.perm_middle (a:=(S[i]?.getD default).L[j]) (l₁:=(S[i]?.getD default).L.take j) (l₂:=(S[i]?.getD default).L.drop (j+1))
   exact (List.Perm.of_eq e2).trans this
  exact (p1.trans (p3.append_right _)).trans (p2.cons _)
 have hlen:(cE S k).length=S.length:=by rw [e];exact List.length_set ..
 refine ⟨⟨by rw [hlen];exact h.ln,fun m hm u hu=>?_,fun m=>?_,fun u hu=>h.tv u (hp.symm.subset (List.mem_cons_of_mem _ hu)),?_⟩,hp,hlen,fun m=>?_⟩
 · rw [hlen] at hm ⊢
   rw [e,dT] at hu
   by_cases c:i=m∧i < S.length
   · rw [if_pos c] at hu;obtain ⟨rfl,_⟩:=c;exact h.ix i hm u (hsub.subset hu)
   · rw [if_neg c] at hu;exact h.ix m hm u hu
 · rw [e,dT]
   by_cases c:i=m∧i < S.length
   · rw [if_pos c];exact (h.so i).sublist hsub
   · rw [if_neg c];exact h.so m
 · have:=((hp.map Trail.Stamp).nodup_iff).1 h.su
   rw [List.map_cons,List.nodup_cons] at this
   exact this.2
 · rw [e,dT]
   by_cases c:i=m∧i < S.length
   · rw [if_pos c];obtain ⟨rfl,_⟩:=c;rfl
   · rw [if_neg c]
theorem b6m {L:List Trail} {s:Span} (hl:L.length≤1048576):∀(m k:Nat),k+m=L.length→(∀i:Nat,i < k→(L[i]?.getD default).Id≤s.Trace)→∃v:Nat,eP (iI L s) m ((k:Nat):Int)=.fin ((v:Nat):Int)∧v≤L.length∧(∀i:Nat,i < v→(L[i]?.getD default).Id≤s.Trace)∧(v < L.length→(L[v]?.getD default).Id > s.Trace)
 | 0,k,hk,hp=>by
   refine ⟨k,?_,by omega,hp,fun h=>by omega⟩
   rw [eP]
   unfold iI
   rw [decide_eq_false (by omega),cond_false]
   rfl
 | m+1,k,hk,hp=>by
   have hkl:(((k:Nat):Int) < ((L.length:Nat):Int)):=by omega
   have e1:((k:Nat):Int).toNat=k:=Int.toNat_natCast k
   by_cases c:(L[k]?.getD default).Id≤s.Trace
   · obtain ⟨v,e,h1,h2,h3⟩:=b6m hl m (k+1) (by omega) (fun i hi=>by
      by_cases q:i=k
      · subst q;exact c
      · exact hp i (by omega))
     refine ⟨v,?_,h1,h2,h3⟩
     have e0:iI L s ((k:Nat):Int)=.next (((k+1:Nat)):Int):=by
      unfold iI
      rw [decide_eq_true hkl,cond_true,e1,decide_eq_true c,cond_true,Go.Ev.wrap_small (by omega) (by omega)];rfl
     rw [eP,e0];exact e
   · refine ⟨k,?_,by omega,hp,fun _=>by omega⟩
     have e0:iI L s ((k:Nat):Int)=.stop ((k:Nat):Int):=by
      unfold iI
      rw [decide_eq_true hkl,cond_true,e1,decide_eq_false c,cond_false]
     rw [eP,e0];rfl
theorem c7d {L:List Trail} {s:Span} {a b:Int} (hl:L.length≤1048576) (h:aL L s.Trace < 0):∃v:Nat,v≤L.length∧(∀i:Nat,i < v→(L[i]?.getD default).Id≤s.Trace)∧(v < L.length→(L[v]?.getD default).Id > s.Trace)∧eI L s a b=L.take v++[Trail.mk s.Trace a b [s]]++L.drop v:=by
 obtain ⟨v,e,h1,h2,h3⟩:=b6m (s:=s) hl L.length 0 (by omega) (fun i hi=>absurd hi (Nat.not_lt_zero _))
 refine ⟨v,h1,h2,h3,?_⟩
 unfold eI
 rw [decide_eq_false (by omega),cond_false]
 have ej:jV L s=.next ((v:Nat):Int):=by
  unfold jV
  show Fin.get _ (eP (iI L s) L.length (((0:Nat)):Int))=_
  rw [e];rfl
 rw [ej]
 show ((cI (List.take (((v:Nat):Int).toNat - 0) (List.drop 0 L)))++[(Trail.mk s.Trace a b [(aX s)])])++(cI (List.take (L.length - ((v:Nat):Int).toNat) (List.drop ((v:Nat):Int).toNat L)))=_
 rw [dG,dG,Int.toNat_natCast,Nat.sub_zero,List.drop_zero,pV,(List.take_of_length_le (by rw [List.length_drop];exact Nat.le_refl _):List.take (L.length - v) (List.drop v L)=List.drop v L)]
theorem c7c {L:List Trail} {s:Span} {a b:Int} (h:0≤aL L s.Trace):eI L s a b=L.set (aL L s.Trace).toNat { (L[(aL L s.Trace).toNat]?.getD default) with Spans:=(L[(aL L s.Trace).toNat]?.getD default).Spans++[s] }:=by
 unfold eI
 rw [decide_eq_true (show aL L s.Trace≥0 from h),cond_true,dG,pV]
theorem d3t {now next:Int} {S:List Stripe} (h:StV now next S) (k:Int):(aC S k).2=!decide (aL (S[(aD k ((S.length:Nat):Int)).toNat]?.getD default).L k < 0):=by
 unfold aC
 rw [show (((S.length:Nat):Int)==0)=false by have:=h.ln;simp;intro q;rw [q] at this;exact absurd this.1 (by decide),cond_false]
 cases decide (aL (S[(aD k ((S.length:Nat):Int)).toNat]?.getD default).L k < 0) <;> rfl
theorem c3p {L:List Trail} {j:Nat} {x:Trail} (h:L.Pairwise (fun a b=>a.Id < b.Id)) (hx:x.Id=(L[j]?.getD default).Id):(L.set j x).Pairwise (fun a b=>a.Id < b.Id):=by
 by_cases hj:j < L.length
 · have e:(L.set j x).map Trail.Id=L.map Trail.Id:=by
    rw [List.map_set,hx,List.getElem?_eq_getElem hj]
    have:=@List.set_getElem_self _ (L.map Trail.Id) j (by rw [List.length_map];exact hj)
    rw [List.getElem_map] at this
    exact this
   have h2:(L.map Trail.Id).Pairwise (fun x y=>x < y):=List.pairwise_map.2 h
   rw [←e] at h2
   exact List.pairwise_map.1 h2
 · rw [List.set_eq_of_length_le (by omega)];exact h
theorem b6r {L:List Trail} {j:Nat} {x:Trail} (hj:j < L.length):∃R:List Trail,L.Perm (L[j] :: R)∧(L.set j x).Perm (x :: R):=by
 refine ⟨L.take j++L.drop (j+1),?_,?_⟩
 · have e2:L=L.take j++L[j] :: L.drop (j+1):=by rw [←List.drop_eq_getElem_cons hj,List.take_append_drop]
   exact (List.Perm.of_eq e2).trans List.perm_middle
 · rw [List.set_eq_take_append_cons_drop,if_pos hj]
   exact List.perm_middle
theorem c9u {now next:Int} {S:List Stripe} {s:Span} {a b c:Int} (h:StV now next S) (hs:eH s=true) (hf:(aC S s.Trace).2=true) :
 StV now next (S.set (aD s.Trace ((S.length:Nat):Int)).toNat (Stripe.mk c (eI (S[(aD s.Trace ((S.length:Nat):Int)).toNat]?.getD default).L s a b)))∧∃R,(bW S).Perm ((aC S s.Trace).1 :: R)∧(bW (S.set (aD s.Trace ((S.length:Nat):Int)).toNat (Stripe.mk c (eI (S[(aD s.Trace ((S.length:Nat):Int)).toNat]?.getD default).L s a b)))).Perm ({ (aC S s.Trace).1 with Spans:=(aC S s.Trace).1.Spans++[s] } :: R):=by
 obtain ⟨i,j,hi,h0,hj,hjl,ht,hid,hil⟩:=tX hf
 rw [←hi,c7c h0,←hj,←ht]
 generalize (aC S s.Trace).1=t at *
 have htl:(S[i]?.getD default).L[j]=t:=by rw [ht,List.getElem?_eq_getElem hjl];rfl
 obtain ⟨R0,p1,p2⟩:=b6r (x:={ t with Spans:=t.Spans++[s] }) hjl
 rw [htl] at p1
 have pa:(bW S).Perm (t :: (R0++bW (S.set i (Stripe.mk c [])))):=(b0r (a:=c) hil).trans (p1.append_right _)
 have pb:(bW (S.set i (Stripe.mk c ((S[i]?.getD default).L.set j { t with Spans:=t.Spans++[s] })))).Perm ({ t with Spans:=t.Spans++[s] } :: (R0++bW (S.set i (Stripe.mk c [])))):=(b0q hil).trans (p2.append_right _)
 have hmt:t∈bW S:=pa.symm.subset (List.mem_cons_self ..)
 refine ⟨⟨by rw [List.length_set];exact h.ln,fun m hm u hu=>?_,fun m=>?_,fun u hu=>?_,?_⟩,_,pa,pb⟩
 · rw [List.length_set] at hm ⊢
   rw [dT] at hu
   by_cases q:i=m∧i < S.length
   · rw [if_pos q] at hu
     obtain ⟨rfl,_⟩:=q
     rcases List.mem_or_eq_of_mem_set hu with hu | rfl
     · exact h.ix i hm u hu
     · exact h.ix i hm t (by rw [←htl];exact List.getElem_mem hjl)
   · rw [if_neg q] at hu;exact h.ix m hm u hu
 · rw [dT]
   by_cases q:i=m∧i < S.length
   · rw [if_pos q];exact c3p (h.so i) (by rw [←ht])
   · rw [if_neg q];exact h.so m
 · rcases List.mem_cons.1 (pb.subset hu) with rfl | hu
   · obtain ⟨hv,ho⟩:=h.tv t hmt
     refine ⟨⟨hv.id,hv.st,hv.fi,?_,fun x hx=>?_⟩,ho⟩
     · show t.Spans++[s]≠[]
       simp
     · rcases List.mem_append.1 hx with hx | hx
       · exact hv.sp x hx
       · obtain rfl:=List.mem_singleton.1 hx;exact ⟨hs,hid.symm⟩
   · exact h.tv u (pa.symm.subset (List.mem_cons_of_mem _ hu))
 · have hd:=((pa.map Trail.Stamp).nodup_iff).1 h.su
   exact ((pb.map Trail.Stamp).nodup_iff).2 hd
theorem c9v {now next:Int} {S:List Stripe} {n:Nat} {s:Span} {c:Int} (h:StV now next S) (hb:bdS Stripe.bd n S) (hn:n≤1000000) (hnow:0≤now) (hnx:1≤next) (hs:eH s=true) (hr:1≤s.Trace∧s.Trace≤999) (ho:a2v s.Trace) (hf:(aC S s.Trace).2=false) :
 StV now (next+1) (S.set (aD s.Trace ((S.length:Nat):Int)).toNat (Stripe.mk c (eI (S[(aD s.Trace ((S.length:Nat):Int)).toNat]?.getD default).L s next now)))∧(bW (S.set (aD s.Trace ((S.length:Nat):Int)).toNat (Stripe.mk c (eI (S[(aD s.Trace ((S.length:Nat):Int)).toNat]?.getD default).L s next now)))).Perm (Trail.mk s.Trace next now [s] :: bW S):=by
 have hst:=stO (t:=s.Trace) h.ln
 have hat:=d3t h s.Trace
 rw [hf] at hat
 generalize hi:(aD s.Trace ((S.length:Nat):Int)).toNat=i at hat ⊢
 have hil:i < S.length:=by omega
 have hneg:aL (S[i]?.getD default).L s.Trace < 0:=by
  by_cases q:aL (S[i]?.getD default).L s.Trace < 0
  · exact q
  · rw [decide_eq_false q] at hat;cases hat
 have hS:Stripe.bd n (S[i]?.getD default):=iM hb fN _
 have hlen:(S[i]?.getD default).L.length≤n:=hS.1
 obtain ⟨v,v1,v2,v3,e⟩:=c7d (a:=next) (b:=now) (by omega) hneg
 rw [e]
 have hso:=h.so i
 have hno:=a6f hneg
 have hix:=h.ix i hil
 have pm:((S[i]?.getD default).L.take v++[Trail.mk s.Trace next now [s]]++(S[i]?.getD default).L.drop v).Perm (Trail.mk s.Trace next now [s] :: (S[i]?.getD default).L):=by
  rw [List.append_assoc]
  have:=List.perm_middle (a:=Trail.mk s.Trace next now [s]) (l₁:=(S[i]?.getD default).L.take v) (l₂:=(S[i]?.getD default).L.drop v)
  rw [List.take_append_drop] at this
  exact this
 have pb:(bW (S.set i (Stripe.mk c ((S[i]?.getD default).L.take v++[Trail.mk s.Trace next now [s]]++(S[i]?.getD default).L.drop v)))).Perm (Trail.mk s.Trace next now [s] :: bW S) :=
  ((b0q hil).trans (pm.append_right _)).trans (((b0r (a:=c) hil).symm).cons _)
 refine ⟨⟨by rw [List.length_set];exact h.ln,fun m hm u hu=>?_,fun m=>?_,fun u hu=>?_,?_⟩,pb⟩
 · rw [List.length_set] at hm ⊢
   rw [dT] at hu
   by_cases q:i=m∧i < S.length
   · rw [if_pos q] at hu
     obtain ⟨rfl,_⟩:=q
     rcases List.mem_cons.1 (pm.subset hu) with rfl | hu
     · exact hi
     · exact hix u hu
   · rw [if_neg q] at hu;exact h.ix m hm u hu
 · rw [dT]
   by_cases q:i=m∧i < S.length
   · rw [if_pos q]
     show List.Pairwise _ ((S[i]?.getD default).L.take v++[Trail.mk s.Trace next now [s]]++(S[i]?.getD default).L.drop v)
     generalize (S[i]?.getD default).L=L at hso hno v1 v2 v3
     have hlt:∀x∈L.take v,x.Id < s.Trace:=by
      intro x hx
      obtain ⟨j,hj,rfl⟩:=List.getElem_of_mem hx
      have hj':j < v∧j < L.length:=by rw [List.length_take] at hj;omega
      have:=v2 j hj'.1
      rw [List.getElem?_eq_getElem hj'.2] at this
      have h2:=hno L[j] (List.getElem_mem hj'.2)
      rw [List.getElem_take]
      have:L[j].Id≤s.Trace:=this
      omega
     have hgt:∀x∈L.drop v,s.Trace < x.Id:=by
      intro x hx
      obtain ⟨j,hj,rfl⟩:=List.getElem_of_mem hx
      rw [List.length_drop] at hj
      rw [List.getElem_drop]
      have hvl:v < L.length:=by omega
      have h3:=v3 hvl
      rw [List.getElem?_eq_getElem hvl] at h3
      have h3:L[v].Id > s.Trace:=h3
      by_cases q:j=0
      · subst q;simpa using h3
      · have:=List.pairwise_iff_getElem.1 hso v (v+j) hvl (by omega) (by omega)
        omega
     rw [List.append_assoc,List.pairwise_append]
     refine ⟨hso.sublist (List.take_sublist _ _),?_,fun x hx y hy=>?_⟩
     · rw [List.singleton_append,List.pairwise_cons]
       exact ⟨fun y hy=>hgt y hy,hso.sublist (List.drop_sublist _ _)⟩
     · rw [List.singleton_append] at hy
       rcases List.mem_cons.1 hy with rfl | hy
       · exact hlt x hx
       · have a1:=hlt x hx
         have a2:=hgt y hy
         omega
   · rw [if_neg q];exact h.so m
 · rcases List.mem_cons.1 (pb.subset hu) with rfl | hu
   · exact ⟨⟨hr,⟨hnx,by show next < next+1;omega⟩,⟨hnow,Int.le_refl _⟩,by simp,fun x hx=>by obtain rfl:=List.mem_singleton.1 hx;exact ⟨hs,rfl⟩⟩,ho⟩
   · have:=h.tv u hu
     exact ⟨this.1.mono (Int.le_refl _) (by omega),this.2⟩
 · refine ((pb.map Trail.Stamp).nodup_iff).2 ?_
   rw [List.map_cons,List.nodup_cons]
   refine ⟨fun hm=>?_,h.su⟩
   obtain ⟨u,hu,e2⟩:=List.mem_map.1 hm
   have:=(h.tv u hu).1.st
   have e2:u.Stamp=next:=e2
   omega
def hS (t:Task) (n:Nat):Int:=if t.Op=1∧t.Pc=1 then aD t.S.Trace ((n:Nat):Int) else if (t.Op=1∧t.Pc=3)∨(t.Op=2∧(t.Pc=1∨t.Pc=2)) then aD t.Trace ((n:Nat):Int) else -1
def hR (t:Task):Prop:=t.Op=2∧t.Pc=2
structure LkV (n:Nat) (held:Nat→Int) (T:List Task) (rule:Int):Prop where
 l1:∀k:Nat,k < 5→0≤hS (T[k]?.getD default) n→held (hS (T[k]?.getD default) n).toNat=(k:Int)
 l2:∀i:Nat,i < n→held i=-1∨∃k:Nat,k < 5∧held i=(k:Int)∧hS (T[k]?.getD default) n=(i:Int)
 r1:∀k:Nat,k < 5→hR (T[k]?.getD default)→rule=(k:Int)
 r2:rule=-1∨∃k:Nat,k < 5∧rule=(k:Int)∧hR (T[k]?.getD default)
theorem iP {T:List Task} {j k:Nat} {x:Task} (hT:T.length=5) (hj:j < 5):(T.set j x)[k]?.getD default=if j=k then x else T[k]?.getD default:=by
 rw [dT]
 by_cases c:j=k
 · rw [if_pos ⟨c,by omega⟩,if_pos c]
 · rw [if_neg (fun h=>c h.1),if_neg c]
theorem LkV.same {n:Nat} {held:Nat→Int} {T:List Task} {rule:Int} (h:LkV n held T rule) (hT:T.length=5) {j:Nat} (hj:j < 5) {x:Task} (hx:hS x n=hS (T[j]?.getD default) n) (hr:hR x↔hR (T[j]?.getD default)):LkV n held (T.set j x) rule:=by
 have g:∀k,hS ((T.set j x)[k]?.getD default) n=hS (T[k]?.getD default) n:=fun k=>by
  rw [iP hT hj]
  by_cases c:j=k
  · rw [if_pos c,hx,c]
  · rw [if_neg c]
 have g2:∀k,hR ((T.set j x)[k]?.getD default)↔hR (T[k]?.getD default):=fun k=>by
  rw [iP hT hj]
  by_cases c:j=k
  · rw [if_pos c,hr,c]
  · rw [if_neg c]
 refine ⟨fun k hk=>by rw [g];exact h.l1 k hk,fun i hi=>?_,fun k hk hh=>h.r1 k hk ((g2 k).1 hh),?_⟩
 · rcases h.l2 i hi with e | ⟨k,hk,e1,e2⟩
   · exact .inl e
   · exact .inr ⟨k,hk,e1,by rw [g];exact e2⟩
 · rcases h.r2 with e | ⟨k,hk,e1,e2⟩
   · exact .inl e
   · exact .inr ⟨k,hk,e1,(g2 k).2 e2⟩
theorem LkV.put {n:Nat} {held held':Nat→Int} {T:List Task} {rule:Int} (h:LkV n held T rule) (hT:T.length=5) {j i0:Nat} (hj:j < 5) (hi0:i0 < n) {x:Task} (ho:hS (T[j]?.getD default) n=-1) (hx:hS x n=(i0:Int)) (hf:held i0=-1) (h1:held' i0=(j:Int)) (h2:∀i,i≠i0→held' i=held i) (hr:hR x↔hR (T[j]?.getD default)):LkV n held' (T.set j x) rule:=by
 have g2:∀k,hR ((T.set j x)[k]?.getD default)↔hR (T[k]?.getD default):=fun k=>by
  rw [iP hT hj]
  by_cases c:j=k
  · rw [if_pos c,hr,c]
  · rw [if_neg c]
 refine ⟨fun k hk=>?_,fun i hi=>?_,fun k hk hh=>h.r1 k hk ((g2 k).1 hh),?_⟩
 · rw [iP hT hj]
   by_cases c:j=k
   · rw [if_pos c,hx,Int.toNat_natCast];intro _;rw [h1,c]
   · rw [if_neg c]
     intro hp
     have:=h.l1 k hk hp
     by_cases q:(hS (T[k]?.getD default) n).toNat=i0
     · rw [q,hf] at this;omega
     · rw [h2 _ q];exact this
 · by_cases q:i=i0
   · subst q
     exact .inr ⟨j,hj,h1,by rw [iP hT hj,if_pos rfl];exact hx⟩
   · rw [h2 _ q]
     rcases h.l2 i hi with e | ⟨k,hk,e1,e2⟩
     · exact .inl e
     · refine .inr ⟨k,hk,e1,?_⟩
       rw [iP hT hj,if_neg (fun c=>by subst c;rw [ho] at e2;omega)]
       exact e2
 · rcases h.r2 with e | ⟨k,hk,e1,e2⟩
   · exact .inl e
   · exact .inr ⟨k,hk,e1,(g2 k).2 e2⟩
theorem LkV.drop {n:Nat} {held held':Nat→Int} {T:List Task} {rule:Int} (h:LkV n held T rule) (hT:T.length=5) {j i0:Nat} (hj:j < 5) {x:Task} (ho:hS (T[j]?.getD default) n=(i0:Int)) (hx:hS x n=-1) (h1:held' i0=-1) (h2:∀i,i≠i0→held' i=held i) (hr:hR x↔hR (T[j]?.getD default)):LkV n held' (T.set j x) rule:=by
 have g2:∀k,hR ((T.set j x)[k]?.getD default)↔hR (T[k]?.getD default):=fun k=>by
  rw [iP hT hj]
  by_cases c:j=k
  · rw [if_pos c,hr,c]
  · rw [if_neg c]
 have own:=h.l1 j hj (by rw [ho];omega)
 rw [ho,Int.toNat_natCast] at own
 refine ⟨fun k hk=>?_,fun i hi=>?_,fun k hk hh=>h.r1 k hk ((g2 k).1 hh),?_⟩
 · rw [iP hT hj]
   by_cases c:j=k
   · rw [if_pos c,hx];intro hp;omega
   · rw [if_neg c]
     intro hp
     have:=h.l1 k hk hp
     by_cases q:(hS (T[k]?.getD default) n).toNat=i0
     · rw [q,own] at this;exact absurd (by omega) c
     · rw [h2 _ q];exact this
 · by_cases q:i=i0
   · subst q;exact .inl h1
   · rw [h2 _ q]
     rcases h.l2 i hi with e | ⟨k,hk,e1,e2⟩
     · exact .inl e
     · refine .inr ⟨k,hk,e1,?_⟩
       rw [iP hT hj,if_neg (fun c=>by subst c;rw [ho] at e2;omega)]
       exact e2
 · rcases h.r2 with e | ⟨k,hk,e1,e2⟩
   · exact .inl e
   · exact .inr ⟨k,hk,e1,(g2 k).2 e2⟩
theorem LkV.rule {n:Nat} {held:Nat→Int} {T:List Task} (h:LkV n held T (-1)) (hT:T.length=5) {j:Nat} (hj:j < 5) {x:Task} (hx:hS x n=hS (T[j]?.getD default) n) (hr:hR x):LkV n held (T.set j x) (j:Int):=by
 have none:∀k:Nat,k < 5→¬hR (T[k]?.getD default):=fun k hk hh=>by have:=h.r1 k hk hh;omega
 have g:∀k,hS ((T.set j x)[k]?.getD default) n=hS (T[k]?.getD default) n:=fun k=>by
  rw [iP hT hj]
  by_cases c:j=k
  · rw [if_pos c,hx,c]
  · rw [if_neg c]
 refine ⟨fun k hk=>by rw [g];exact h.l1 k hk,fun i hi=>?_,fun k hk hh=>?_,.inr ⟨j,hj,rfl,by rw [iP hT hj,if_pos rfl];exact hr⟩⟩
 · rcases h.l2 i hi with e | ⟨k,hk,e1,e2⟩
   · exact .inl e
   · exact .inr ⟨k,hk,e1,by rw [g];exact e2⟩
 · rw [iP hT hj] at hh
   by_cases c:j=k
   · rw [c]
   · rw [if_neg c] at hh;exact absurd hh (none k hk)
theorem LkV.both {n:Nat} {held held':Nat→Int} {T:List Task} {rule:Int} (h:LkV n held T rule) (hT:T.length=5) {j i0:Nat} (hj:j < 5) {x:Task} (ho:hS (T[j]?.getD default) n=(i0:Int)) (hx:hS x n=-1) (h1:held' i0=-1) (h2:∀i,i≠i0→held' i=held i) (hro:hR (T[j]?.getD default)) (hr:¬hR x):LkV n held' (T.set j x) (-1):=by
 have own:=h.l1 j hj (by rw [ho];omega)
 rw [ho,Int.toNat_natCast] at own
 have hru:=h.r1 j hj hro
 refine ⟨fun k hk=>?_,fun i hi=>?_,fun k hk hh=>?_,.inl rfl⟩
 · rw [iP hT hj]
   by_cases c:j=k
   · rw [if_pos c,hx];intro hp;omega
   · rw [if_neg c]
     intro hp
     have:=h.l1 k hk hp
     by_cases q:(hS (T[k]?.getD default) n).toNat=i0
     · rw [q,own] at this;exact absurd (by omega) c
     · rw [h2 _ q];exact this
 · by_cases q:i=i0
   · subst q;exact .inl h1
   · rw [h2 _ q]
     rcases h.l2 i hi with e | ⟨k,hk,e1,e2⟩
     · exact .inl e
     · refine .inr ⟨k,hk,e1,?_⟩
       rw [iP hT hj,if_neg (fun c=>by subst c;rw [ho] at e2;omega)]
       exact e2
 · rw [iP hT hj] at hh
   by_cases c:j=k
   · rw [if_pos c] at hh;exact absurd hh hr
   · rw [if_neg c] at hh
     have:=h.r1 k hk hh
     exact absurd (by omega) c
def uX (x:Item):Prop:=1≤x.Stamp∧eH x.S=true
def c3l:Span:=Span.mk 0 0 0 0 false ([]:List Attr)
structure TX (next:Int) (D:List Deed) (k:Nat) (t:Task):Prop where
 op:t.Op=0∨t.Op=1∨t.Op=2
 pc:t.Pc=0∨t.Pc=1∨t.Pc=2∨t.Pc=3
 no:t.Op=0→t=pM
 of:t.Op=1→k < 3∧eH t.S=true∧a2v t.S.Trace
 o3:t.Op=1→t.Pc=3→(1≤t.Trace∧t.Trace≤999)∧1≤t.Stamp∧t.Stamp < next
 on:t.Op=1→t.Pc≠3→t.Trace=0∧t.Stamp=0
 ju:t.Op=2→3≤k∧t.S=c3l∧(1≤t.Trace∧t.Trace≤999)∧1≤t.Stamp∧t.Stamp < next
 hd:t.Op=2→t.Pc=3→t.Hand≠[]
 hi:∀x∈t.Hand,uX x∧x.Stamp=t.Stamp
 hh:0≤t.H
 dr:t.Op=1∨t.Op=2→(D[t.H.toNat]?.getD default).Res=-1
 dl:t.Op=2→t.Pc=3→(D[t.H.toNat]?.getD default).Lin≠-1
 ds:t.Op=1→(D[t.H.toNat]?.getD default).S=t.S
 dt:t.Op=2→(D[t.H.toNat]?.getD default).Trace=t.Trace∧(D[t.H.toNat]?.getD default).Stamp=t.Stamp
theorem TX.next {next next':Int} {D:List Deed} {k:Nat} {t:Task} (h:TX next D k t) (hn:next≤next'):TX next' D k t :=
 { h with o3:=fun a b=>by have:=h.o3 a b;omega,ju:=fun a=>by have:=h.ju a;exact ⟨this.1,this.2.1,this.2.2.1,this.2.2.2.1,by omega⟩ }
theorem TX.deeds {next:Int} {D D':List Deed} {k:Nat} {t:Task} (h:TX next D k t) (hd:t.Op=1∨t.Op=2→D'[t.H.toNat]?.getD default=D[t.H.toNat]?.getD default):TX next D' k t :=
 { h with
   dr:=fun a=>by rw [hd a];exact h.dr a
   dl:=fun a=>by rw [hd (.inr a)];exact h.dl a
   ds:=fun a=>by rw [hd (.inl a)];exact h.ds a
   dt:=fun a=>by rw [hd (.inr a)];exact h.dt a }
theorem TX.app {next:Int} {D:List Deed} {k:Nat} {t:Task} {d:Deed} (h:TX next D k t) (hd:TD D k t):TX next (D++[d]) k t :=
 h.deeds fun ho=>b9p (hd.own ho).2.1
theorem TX.set {next:Int} {D:List Deed} {k j i:Nat} {t:Task} {d:Deed} (h:TX next D k t) (hd:TD D k t) (hi:(D[i]?.getD default).Task=(j:Int)) (hk:k≠j):TX next (D.set i d) k t :=
 h.deeds fun ho=>by
  rw [dT,if_neg]
  rintro ⟨e,_⟩
  have:=(hd.own ho).2.2.1
  rw [←e,hi] at this
  omega
theorem a7w {next:Int} {D:List Deed} {k:Nat}:TX next D k pM where
 op:=.inl rfl
 pc:=.inl rfl
 no:=fun _=>rfl
 of:=fun h=>by cases h
 o3:=fun h=>by cases h
 on:=fun h=>by cases h
 ju:=fun h=>by cases h
 hd:=fun h=>by cases h
 hi:=fun x hx=>by cases hx
 hh:=Int.le_refl _
 dr:=fun h=>by rcases h with h | h <;> cases h
 dl:=fun h=>by cases h
 ds:=fun h=>by cases h
 dt:=fun h=>by cases h
theorem pT {next:Int} {D:List Deed} {T:List Task} {j:Nat} {x:Task} (h:∀k,k < 5→k≠j→TX next D k (T[k]?.getD default)) (hx:j < 5→TX next D j x) (hT:T.length=5):∀k,k < 5→TX next D k ((T.set j x)[k]?.getD default):=by
 intro k hk
 rw [dT]
 by_cases hj:j=k∧j < T.length
 · rw [if_pos hj];obtain ⟨rfl,_⟩:=hj;exact hx hk
 · rw [if_neg hj];exact h k hk (fun e=>hj ⟨e.symm,by omega⟩)
structure KnV (next:Int) (S:List Stripe) (W:Wheel) (du:List Timer) (T:List Task):Prop where
 wh:WhOk W
 un:oN (aI W)
 wn:W.Now≤100000
 ti:∀x∈aI W++du,(1≤x.Id∧x.Id < next)∧1≤x.Trace∧x.Trace≤999
 wt:∀x∈aI W,∃t∈bW S,t.Stamp=x.Id∧t.Id=x.Trace
 u1:∀x∈aI W,∀y∈du,x.Id≠y.Id
 u2:∀x∈aI W,∀k:Nat,k < 5→(T[k]?.getD default).Op=2→x.Id≠(T[k]?.getD default).Stamp
 kn:∀t∈bW S,(∃x∈aI W++du,x.Id=t.Stamp∧x.Trace=t.Id)∨∃k:Nat,k < 5∧(T[k]?.getD default).Op=2∧(T[k]?.getD default).Pc≠3∧(T[k]?.getD default).Stamp=t.Stamp∧(T[k]?.getD default).Trace=t.Id
theorem KnV.task {next:Int} {S:List Stripe} {W:Wheel} {du:List Timer} {T:List Task} (h:KnV next S W du T) (hT:T.length=5) {j:Nat} (hj:j < 5) {x:Task} (ho:(T[j]?.getD default).Op≠2∨(T[j]?.getD default).Pc=3) (hx:x.Op≠2):KnV next S W du (T.set j x) :=
 { h with
   u2:=fun y hy k hk hop=>by
    rw [iP hT hj] at hop ⊢
    by_cases c:j=k
    · rw [if_pos c] at hop;exact absurd hop hx
    · rw [if_neg c] at hop ⊢;exact h.u2 y hy k hk hop
   kn:=fun t ht=>by
    rcases h.kn t ht with e | ⟨k,hk,e1,e2,e3⟩
    · exact .inl e
    · refine .inr ⟨k,hk,?_⟩
      rw [iP hT hj,if_neg (fun c=>by subst c;rcases ho with q | q;exact q e1;exact e2 q)]
      exact ⟨e1,e2,e3⟩ }
theorem KnV.step {next:Int} {S:List Stripe} {W:Wheel} {du:List Timer} {T:List Task} (h:KnV next S W du T) (hT:T.length=5) {j:Nat} (hj:j < 5) {x:Task} (h1:x.Op=(T[j]?.getD default).Op) (h2:x.Stamp=(T[j]?.getD default).Stamp) (h3:x.Trace=(T[j]?.getD default).Trace) (h4:(T[j]?.getD default).Pc≠3→x.Pc≠3):KnV next S W du (T.set j x) :=
 { h with
   u2:=fun y hy k hk hop=>by
    rw [iP hT hj] at hop ⊢
    by_cases c:j=k
    · rw [if_pos c] at hop ⊢;rw [h2,c];exact h.u2 y hy k hk (by rw [←c,←h1];exact hop)
    · rw [if_neg c] at hop ⊢;exact h.u2 y hy k hk hop
   kn:=fun t ht=>by
    rcases h.kn t ht with e | ⟨k,hk,e1,e2,e3,e4⟩
    · exact .inl e
    · refine .inr ⟨k,hk,?_⟩
      rw [iP hT hj]
      by_cases c:j=k
      · rw [if_pos c,h1,h2,h3,c];exact ⟨e1,h4 (by rw [c];exact e2),e3,e4⟩
      · rw [if_neg c];exact ⟨e1,e2,e3,e4⟩ }
theorem KnV.lock {next:Int} {S:List Stripe} {W:Wheel} {du:List Timer} {T:List Task} (h:KnV next S W du T) {i:Nat} {a:Int}:KnV next (S.set i (Stripe.mk a (S[i]?.getD default).L)) W du T :=
 { h with wt:=by rw [mP];exact h.wt,kn:=by rw [mP];exact h.kn }
theorem b5v:∀{l m:List Int},l.Nodup→(∀x∈l,x∈m)→l.length≤m.length
 | [],_,_,_=>Nat.zero_le _
 | x :: l,m,h,hs=>by
   rw [List.nodup_cons] at h
   have hm:=hs x (List.mem_cons_self ..)
   have:=b5v (l:=l) (m:=m.erase x) h.2 (fun y hy=>(List.mem_erase_of_ne (fun e=>h.1 (by rw [←e];exact hy))).2 (hs y (List.mem_cons_of_mem _ hy)))
   rw [List.length_erase_of_mem hm] at this
   have hp:=List.length_pos_of_mem hm
   rw [List.length_cons];omega
theorem KnV.six {now next:Int} {S:List Stripe} {W:Wheel} {du:List Timer} {T:List Task} (h:KnV next S W du T) (hs:StV now next S):(aI W).length≤6:=by
 have key:((aI W).map Timer.Trace).Nodup:=by
  have hu:=h.un
  unfold oN at hu
  rw [List.nodup_iff_pairwise_ne,List.pairwise_map] at hu ⊢
  refine List.Pairwise.imp_of_mem (fun {x y} hx hy hne he=>hne ?_) hu
  obtain ⟨t,ht,e1,e2⟩:=h.wt x hx
  obtain ⟨u,hu,e3,e4⟩:=h.wt y hy
  have:t=u:=hs.one ht hu (by rw [e2,e4];exact he)
  rw [←e1,←e3,this]
 have:=b5v (m:=[1,2,3,4,5,999]) key (fun n hn=>by
  obtain ⟨x,hx,rfl⟩:=List.mem_map.1 hn
  obtain ⟨t,ht,_,e2⟩:=h.wt x hx
  have:=(hs.tv t ht).2
  rw [e2] at this
  unfold a2v at this
  simp only [List.mem_cons,List.not_mem_nil,or_false]
  exact this)
 rw [List.length_map] at this
 exact this
theorem KnV.swap {next:Int} {S S':List Stripe} {W:Wheel} {du:List Timer} {T:List Task} (h:KnV next S W du T) (h1:∀t∈bW S',∃u∈bW S,u.Stamp=t.Stamp∧u.Id=t.Id) (h2:∀t∈bW S,∃u∈bW S',u.Stamp=t.Stamp∧u.Id=t.Id):KnV next S' W du T :=
 { h with
   wt:=fun x hx=>by
    obtain ⟨t,ht,e1,e2⟩:=h.wt x hx
    obtain ⟨u,hu,f1,f2⟩:=h2 t ht
    exact ⟨u,hu,by rw [f1,e1],by rw [f2,e2]⟩
   kn:=fun t ht=>by
    obtain ⟨u,hu,f1,f2⟩:=h1 t ht
    rw [←f1,←f2];exact h.kn u hu }
theorem KnV.new {now next:Int} {S S':List Stripe} {W:Wheel} {du:List Timer} {T:List Task} (h:KnV next S W du T) (hs:StV now next S) (hnx:1≤next) (ht2:∀k:Nat,k < 5→(T[k]?.getD default).Op=2→(T[k]?.getD default).Stamp < next) {tr at':Int} {t:Trail} (htr:1≤tr∧tr≤999) (hat:W.Now+1≤at'∧at'≤2147483647) (hp:(bW S').Perm (t :: bW S)) (e1:t.Stamp=next) (e2:t.Id=tr):KnV (next+1) S' (iW W (Timer.mk next tr at')).1 du T:=by
 have hl:=h.six hs
 have hwn:=h.wn
 obtain ⟨a1,a2,a3⟩:=c5v (t:=Timer.mk next tr at') h.wh h.un (by omega) ⟨hnx,htr,hat⟩ (fun x hx e=>by
  have:=(h.ti x (List.mem_append.2 (.inl hx))).1.2
  have e:x.Id=next:=e
  omega) (by omega)
 have hm:∀x,x∈aI (iW W (Timer.mk next tr at')).1→x=Timer.mk next tr at'∨x∈aI W:=fun x hx=>List.mem_cons.1 (a3.subset hx)
 have hm2:∀x,x∈aI W→x∈aI (iW W (Timer.mk next tr at')).1:=fun x hx=>a3.symm.subset (List.mem_cons_of_mem _ hx)
 refine ⟨a1,?_,by rw [a2];exact hwn,fun x hx=>?_,fun x hx=>?_,fun x hx y hy=>?_,fun x hx k hk ho=>?_,fun u hu=>?_⟩
 · refine oN.perm a3 ?_
   unfold oN
   rw [List.map_cons,List.nodup_cons]
   refine ⟨fun hh=>?_,h.un⟩
   obtain ⟨x,hx,e⟩:=List.mem_map.1 hh
   have:=(h.ti x (List.mem_append.2 (.inl hx))).1.2
   have e:x.Id=next:=e
   omega
 · rcases List.mem_append.1 hx with hx | hx
   · rcases hm x hx with rfl | hx
     · exact ⟨⟨hnx,by show next < next+1;omega⟩,htr⟩
     · have:=h.ti x (List.mem_append.2 (.inl hx));exact ⟨⟨this.1.1,by omega⟩,this.2⟩
   · have:=h.ti x (List.mem_append.2 (.inr hx));exact ⟨⟨this.1.1,by omega⟩,this.2⟩
 · rcases hm x hx with rfl | hx
   · exact ⟨t,hp.symm.subset (List.mem_cons_self ..),e1,e2⟩
   · obtain ⟨u,hu,f⟩:=h.wt x hx
     exact ⟨u,hp.symm.subset (List.mem_cons_of_mem _ hu),f⟩
 · rcases hm x hx with rfl | hx
   · have:=(h.ti y (List.mem_append.2 (.inr hy))).1.2
     show next≠y.Id
     omega
   · exact h.u1 x hx y hy
 · rcases hm x hx with rfl | hx
   · have:=ht2 k hk ho
     show next≠_
     omega
   · exact h.u2 x hx k hk ho
 · rcases List.mem_cons.1 (hp.subset hu) with rfl | hu
   · exact .inl ⟨Timer.mk next tr at',List.mem_append.2 (.inl (a3.symm.subset (List.mem_cons_self ..))),e1.symm,e2.symm⟩
   · rcases h.kn u hu with ⟨x,hx,f⟩ | f
     · refine .inl ⟨x,?_,f⟩
       rcases List.mem_append.1 hx with hx | hx
       · exact List.mem_append.2 (.inl (hm2 x hx))
       · exact List.mem_append.2 (.inr hx)
     · exact .inr f
theorem KnV.cancel {now next:Int} {S S':List Stripe} {W:Wheel} {du:List Timer} {T:List Task} (h:KnV next S W du T) (hs:StV now next S) {t:Trail} (hp:(bW S).Perm (t :: bW S')):KnV next S' (dI W t.Stamp).1 du T:=by
 obtain ⟨a1,a2,a3⟩:=b6i (id:=t.Stamp) h.wh h.un
 have hm:∀x,x∈aI (dI W t.Stamp).1↔x∈aI W∧x.Id≠t.Stamp:=fun x=>by
  rw [a3,List.mem_filter];simp
 have hd:=((hp.map Trail.Stamp).nodup_iff).1 hs.su
 rw [List.map_cons,List.nodup_cons] at hd
 have hsub:∀u∈bW S',u∈bW S∧u.Stamp≠t.Stamp:=fun u hu=>⟨hp.symm.subset (List.mem_cons_of_mem _ hu),fun e=>hd.1 (List.mem_map.2 ⟨u,hu,e⟩)⟩
 refine ⟨a1,?_,by rw [a2];exact h.wn,fun x hx=>?_,fun x hx=>?_,fun x hx y hy=>h.u1 x ((hm x).1 hx).1 y hy,fun x hx k hk ho=>h.u2 x ((hm x).1 hx).1 k hk ho,fun u hu=>?_⟩
 · rw [a3]
   exact List.Nodup.sublist ((List.filter_sublist).map Timer.Id) h.un
 · rcases List.mem_append.1 hx with hx | hx
   · exact h.ti x (List.mem_append.2 (.inl ((hm x).1 hx).1))
   · exact h.ti x (List.mem_append.2 (.inr hx))
 · obtain ⟨hx1,hx2⟩:=(hm x).1 hx
   obtain ⟨u,hu,f1,f2⟩:=h.wt x hx1
   rcases List.mem_cons.1 (hp.subset hu) with rfl | hu
   · exact absurd f1.symm hx2
   · exact ⟨u,hu,f1,f2⟩
 · obtain ⟨hu1,hu2⟩:=hsub u hu
   rcases h.kn u hu1 with ⟨x,hx,f1,f2⟩ | f
   · refine .inl ⟨x,?_,f1,f2⟩
     rcases List.mem_append.1 hx with hx | hx
     · exact List.mem_append.2 (.inl ((hm x).2 ⟨hx,by rw [f1];exact hu2⟩))
     · exact List.mem_append.2 (.inr hx)
   · exact .inr f
theorem KnV.judge {next:Int} {S S':List Stripe} {W:Wheel} {du:List Timer} {T:List Task} (h:KnV next S W du T) (hT:T.length=5) {j:Nat} (hj:j < 5) {x:Task} (ho:(T[j]?.getD default).Op=2) (hx:x.Op=2→x.Stamp=(T[j]?.getD default).Stamp) (h1:∀u∈bW S',u∈bW S∧¬((T[j]?.getD default).Stamp=u.Stamp∧(T[j]?.getD default).Trace=u.Id)) (h2:∀u∈bW S,u.Stamp≠(T[j]?.getD default).Stamp→u∈bW S'):KnV next S' W du (T.set j x) :=
 { h with
   wt:=fun y hy=>by
    obtain ⟨t,ht,e1,e2⟩:=h.wt y hy
    exact ⟨t,h2 t ht (by rw [e1];exact h.u2 y hy j hj ho),e1,e2⟩
   u2:=fun y hy k hk hop=>by
    rw [iP hT hj] at hop ⊢
    by_cases c:j=k
    · rw [if_pos c] at hop ⊢;rw [hx hop];exact h.u2 y hy j hj ho
    · rw [if_neg c] at hop ⊢;exact h.u2 y hy k hk hop
   kn:=fun u hu=>by
    obtain ⟨hu1,hu2⟩:=h1 u hu
    rcases h.kn u hu1 with e | ⟨k,hk,e1,e2,e3,e4⟩
    · exact .inl e
    · refine .inr ⟨k,hk,?_⟩
      rw [iP hT hj,if_neg (fun c=>by subst c;exact hu2 ⟨e3,e4⟩)]
      exact ⟨e1,e2,e3,e4⟩ }
theorem KnV.tick {next:Int} {S:List Stripe} {W W':Wheel} {du pop:List Timer} {T:List Task} (h:KnV next S W du T) (a1:WhOk W') (a2:W'.Now≤100000) (a3:(pop++aI W').Perm (aI W)):KnV next S W' (du++pop) T:=by
 have hu:=oN.perm a3 h.un
 unfold oN at hu
 rw [List.map_append,List.nodup_append] at hu
 have hm:∀x∈aI W',x∈aI W:=fun x hx=>a3.subset (List.mem_append.2 (.inr hx))
 have hp:∀x∈pop,x∈aI W:=fun x hx=>a3.subset (List.mem_append.2 (.inl hx))
 have all:∀x,x∈aI W'++(du++pop)↔x∈aI W++du:=fun x=>by
  constructor
  · intro hx
    rcases List.mem_append.1 hx with hx | hx
    · exact List.mem_append.2 (.inl (hm x hx))
    · rcases List.mem_append.1 hx with hx | hx
      · exact List.mem_append.2 (.inr hx)
      · exact List.mem_append.2 (.inl (hp x hx))
  · intro hx
    rcases List.mem_append.1 hx with hx | hx
    · rcases List.mem_append.1 (a3.symm.subset hx) with hx | hx
      · exact List.mem_append.2 (.inr (List.mem_append.2 (.inr hx)))
      · exact List.mem_append.2 (.inl hx)
    · exact List.mem_append.2 (.inr (List.mem_append.2 (.inl hx)))
 refine ⟨a1,hu.2.1,a2,fun x hx=>h.ti x ((all x).1 hx),fun x hx=>h.wt x (hm x hx),fun x hx y hy=>?_,fun x hx=>h.u2 x (hm x hx),fun t ht=>?_⟩
 · rcases List.mem_append.1 hy with hy | hy
   · exact h.u1 x (hm x hx) y hy
   · exact fun e=>hu.2.2 y.Id (List.mem_map.2 ⟨y,hy,rfl⟩) x.Id (List.mem_map.2 ⟨x,hx,rfl⟩) e.symm
 · rcases h.kn t ht with ⟨x,hx,f⟩ | f
   · exact .inl ⟨x,(all x).2 hx,f⟩
   · exact .inr f
theorem KnV.begin {next:Int} {S:List Stripe} {W:Wheel} {y:Timer} {du:List Timer} {T:List Task} (h:KnV next S W (y :: du) T) (hT:T.length=5) {j:Nat} (hj:j < 5) {x:Task} (ho:(T[j]?.getD default).Op≠2) (h1:x.Op=2) (h2:x.Stamp=y.Id) (h3:x.Trace=y.Trace) (h4:x.Pc≠3):KnV next S W du (T.set j x) :=
 { h with
   ti:=fun z hz=>h.ti z (by
    rcases List.mem_append.1 hz with hz | hz
    · exact List.mem_append.2 (.inl hz)
    · exact List.mem_append.2 (.inr (List.mem_cons_of_mem _ hz)))
   u1:=fun z hz v hv=>h.u1 z hz v (List.mem_cons_of_mem _ hv)
   u2:=fun z hz k hk hop=>by
    rw [iP hT hj] at hop ⊢
    by_cases c:j=k
    · rw [if_pos c];rw [h2];exact h.u1 z hz y (List.mem_cons_self ..)
    · rw [if_neg c] at hop ⊢;exact h.u2 z hz k hk hop
   kn:=fun t ht=>by
    rcases h.kn t ht with ⟨z,hz,f1,f2⟩ | ⟨k,hk,e1,e2⟩
    · rcases List.mem_append.1 hz with hz | hz
      · exact .inl ⟨z,List.mem_append.2 (.inl hz),f1,f2⟩
      · rcases List.mem_cons.1 hz with rfl | hz
        · refine .inr ⟨j,hj,?_⟩
          rw [iP hT hj,if_pos rfl,h2,h3]
          exact ⟨h1,h4,f1,f2⟩
        · exact .inl ⟨z,List.mem_append.2 (.inr hz),f1,f2⟩
    · refine .inr ⟨k,hk,?_⟩
      rw [iP hT hj,if_neg (fun c=>by subst c;exact ho e1)]
      exact ⟨e1,e2⟩ }
theorem c6w (n:Int):0≤fA n∧fA n≤2147483647:=by
 unfold fA
 refine aH (P:=fun z:Int=>0≤z∧z≤2147483647) (fun _=>by omega) (fun h1=>aH (P:=fun z:Int=>0≤z∧z≤2147483647) (fun _=>by omega) (fun h2=>?_))
 have h1:=of_decide_eq_false h1
 have h2:=of_decide_eq_false h2
 omega
theorem c0k {n:Int} (h:0≤n∧n≤2147483647):fA n=n:=by
 unfold fA
 rw [decide_eq_false (by omega),cond_false,decide_eq_false (by omega),cond_false]
theorem c2f {c:Conf} {now:Int} (h:dH c=true) (hn:0≤now∧now≤100000):gU c now=now+c.Wait∧1≤c.Wait∧c.Wait≤50:=by
 have hw:1≤c.Wait∧c.Wait≤50:=by
  unfold dH at h
  cases h1:aO c.Stripes 1 3 with
  | false=>rw [h1] at h;cases h
  | true =>
    rw [h1,cond_true] at h
    cases h2:aO c.Wait 1 50 with
    | false=>rw [h2] at h;cases h
    | true=>exact bD.1 h2
 refine ⟨?_,hw⟩
 unfold gU vL
 rw [c0k (n:=now) (by omega),c0k (n:=c.Wait) (by omega),Go.Ev.wrap_small (by omega) (by omega),c0k (n:=now+c.Wait) (by omega)]
theorem wH {c:Conf} (h:dH c=true):(1≤c.Stripes∧c.Stripes≤3)∧(1≤c.Budget∧c.Budget≤190)∧(1≤c.Cache∧c.Cache≤6)∧(1≤c.Queue∧c.Queue≤4)∧(0≤c.Rate∧c.Rate≤99)∧0≤c.Burst∧c.Burst≤999:=by
 unfold dH at h
 have step:∀{a b:Bool},(bif a then b else false)=true→a=true∧b=true:=by intro a b h;cases a <;> cases b <;> first | exact ⟨rfl,rfl⟩ | cases h
 obtain ⟨h1,h⟩:=step h
 obtain ⟨h2,h⟩:=step h
 obtain ⟨h3,h⟩:=step h
 obtain ⟨h4,h⟩:=step h
 obtain ⟨h5,h⟩:=step h
 obtain ⟨h6,h⟩:=step h
 obtain ⟨h7,h⟩:=step h
 exact ⟨bD.1 h1,bD.1 h3,bD.1 h4,bD.1 h5,bD.1 h6,bD.1 h7⟩
structure BuV (c:Conf) (now:Int) (b:Bucket):Prop where
 ra:b.Rate=c.Rate
 bu:b.Burst=c.Burst
 to:0≤b.Tokens∧b.Tokens≤b.Burst
 at':0≤b.At∧b.At≤now
theorem BuV.ok {c:Conf} {now:Int} {b:Bucket} (h:BuV c now b) (hc:dH c=true) (hn:now≤2147483647):oO b=true:=by
 have q:=wH hc
 have h1:=h.ra
 have h2:=h.bu
 have h3:=h.to
 have h4:=h.at'
 unfold oO
 rw [bD.2 (by omega),cond_true,bD.2 (by omega),cond_true,bD.2 (by omega),cond_true,bD.2 (by omega)]
theorem c8j {c:Conf} {now:Int} {b:Bucket} (h:BuV c now b) (hc:dH c=true) (hn:now≤2147483647):BuV c now (bB b now)∧0≤(bB b now).Tokens:=by
 have q:=wH hc
 have h2:=h.bu
 have h4:=h.at'
 unfold bB
 rw [h.ok hc hn,Bool.not_true,cond_false,decide_eq_false (by omega),cond_false,decide_eq_false (by omega),cond_false]
 have ha:=c6w (IntKind.i64.wrap ((fA b.Tokens)+(fA (xH b.Rate (sM now b.At)))))
 refine aH (P:=fun z:Bucket=>BuV c now z∧0≤z.Tokens) (fun _=>⟨⟨h.ra,h.bu,⟨by show 0≤b.Burst;omega,Int.le_refl _⟩,by show 0≤now∧now≤now;omega⟩,by show 0≤b.Burst;omega⟩) (fun hq=>?_)
 have hq:=of_decide_eq_false hq
 exact ⟨⟨h.ra,h.bu,⟨ha.1,by show vL _ _≤b.Burst;omega⟩,by show 0≤now∧now≤now;omega⟩,ha.1⟩
theorem d2r {c:Conf} {now n:Int} {b:Bucket} (h:BuV c now b) (hc:dH c=true) (hn:now≤2147483647):BuV c now (nJ b n).1:=by
 have q:=wH hc
 have h2:=h.bu
 have h3:=h.to
 unfold nJ
 rw [h.ok hc hn,Bool.not_true,cond_false]
 refine aH (P:=fun z:Bucket×Bool=>BuV c now z.1) (fun _=>h) (fun q1=>aH (P:=fun z:Bucket×Bool=>BuV c now z.1) (fun _=>h) (fun q2=>?_))
 have q1:=of_decide_eq_false q1
 have q2:=of_decide_eq_false q2
 refine ⟨h.ra,h.bu,?_,h.at'⟩
 show 0≤IntKind.i64.wrap (b.Tokens - n)∧IntKind.i64.wrap (b.Tokens - n)≤b.Burst
 rw [Go.Ev.wrap_small (by omega) (by omega)]
 omega
theorem c4o {p:Pol} {l:List Span} {n:Int}:0≤(bU p l n).2:=by
 unfold bU
 refine aH (P:=fun z:Bool×Int=>0≤z.2) (fun _=>Int.le_refl 0) (fun _=>aH (P:=fun z:Bool×Int=>0≤z.2) (fun _=>Int.le_refl 0) (fun _=>aH (P:=fun z:Bool×Int=>0≤z.2) (fun _=>(c6w n).1) (fun _=>Int.natCast_nonneg _)))
structure CaV (next most:Int) (l:List Verdict):Prop where
 v:∀x∈l,(1≤x.Trace∧x.Trace≤999)∧1≤x.Stamp∧x.Stamp < next
 u:(l.map Verdict.Trace).Nodup
 n:((l.length:Nat):Int)≤most
theorem c1v {l:List Verdict} {v:Verdict} {most:Int} (hm:1≤most) (hl:((l.length:Nat):Int)≤most) :
 eF l v most=if (((l.filter (fun x:Verdict=>x.Trace != v.Trace)++[v]).length:Nat):Int) > most then (((l.filter (fun x:Verdict=>x.Trace != v.Trace)++[v]).drop 1),((l.filter (fun x:Verdict=>x.Trace != v.Trace)++[v])[0]?.getD default).Trace) else (l.filter (fun x:Verdict=>x.Trace != v.Trace)++[v],0):=by
 unfold eF
 rw [decide_eq_false (by omega),cond_false]
 have key:∀(l:List Verdict) (i:Nat) (s:List Verdict),aJ (lK v) i s l=.fin (s++l.filter (fun x:Verdict=>x.Trace != v.Trace)):=by
  intro l
  induction l with
  | nil=>intro i s;simp [aJ]
  | cons a l ih =>
    intro i s
    rw [aJ]
    unfold lK
    cases c:(a.Trace != v.Trace) with
    | true =>
      rw [List.filter_cons,if_pos c]
      show aJ (lK v) (i+1) (s++[a]) l=_
      rw [ih];simp
    | false =>
      rw [List.filter_cons,if_neg (by rw [c];simp)]
      exact ih (i+1) s
 rw [key,List.nil_append]
 have hf:=List.length_filter_le (fun x:Verdict=>x.Trace != v.Trace) l
 show Fin.get _ (eP (fJ most) (l.filter (fun x:Verdict=>x.Trace != v.Trace)++[v]).length (l.filter (fun x:Verdict=>x.Trace != v.Trace)++[v],0))=_
 generalize hO:l.filter (fun x:Verdict=>x.Trace != v.Trace)++[v]=O
 have hlen:O.length≤l.length+1:=by rw [←hO,List.length_append];simp only [List.length_cons,List.length_nil];omega
 have hpos:1≤O.length:=by rw [←hO,List.length_append];simp only [List.length_cons,List.length_nil];omega
 by_cases c:((O.length:Nat):Int) > most
 · rw [if_pos c]
   obtain ⟨m,e⟩:∃m,O.length=m+1:=⟨O.length - 1,by omega⟩
   have e1:fJ most (O,0)=.next (O.drop 1,(O[0]?.getD default).Trace):=by
    unfold fJ
    rw [decide_eq_true c,cond_true,(List.take_of_length_le (by rw [List.length_drop];exact Nat.le_refl _):List.take (O.length - 1) (List.drop 1 O)=List.drop 1 O)]
   have e2:∀z,fJ most (O.drop 1,z)=.stop (O.drop 1,z):=fun z=>by
    unfold fJ
    rw [decide_eq_false (by show ¬(((O.drop 1).length:Nat):Int) > most;rw [List.length_drop];omega),cond_false]
   rw [e,eP,e1]
   cases m with
   | zero=>show Fin.get _ (eP (fJ most) 0 _)=_;rw [eP,e2];rfl
   | succ m=>show Fin.get _ (eP (fJ most) (m+1) _)=_;rw [eP,e2];rfl
 · rw [if_neg c]
   obtain ⟨m,e⟩:∃m,O.length=m+1:=⟨O.length - 1,by omega⟩
   have e1:fJ most (O,0)=.stop (O,0):=by
    unfold fJ
    rw [decide_eq_false c,cond_false]
   rw [e,eP,e1];rfl
theorem c3t {next most:Int} {l:List Verdict} {v:Verdict} (h:CaV next most l) (hm:1≤most) (hv:(1≤v.Trace∧v.Trace≤999)∧1≤v.Stamp∧v.Stamp < next):CaV next most (eF l v most).1∧0≤(eF l v most).2:=by
 rw [c1v hm h.n]
 have hf:∀x∈l.filter (fun x:Verdict=>x.Trace != v.Trace)++[v],(1≤x.Trace∧x.Trace≤999)∧1≤x.Stamp∧x.Stamp < next:=fun x hx=>by
  rcases List.mem_append.1 hx with hx | hx
  · exact h.v x (List.mem_filter.1 hx).1
  · obtain rfl:=List.mem_singleton.1 hx;exact hv
 have hu:((l.filter (fun x:Verdict=>x.Trace != v.Trace)++[v]).map Verdict.Trace).Nodup:=by
  rw [List.map_append,List.nodup_append]
  refine ⟨List.Nodup.sublist (List.filter_sublist.map _) h.u,by simp,fun a ha b hb e=>?_⟩
  obtain ⟨x,hx,rfl⟩:=List.mem_map.1 ha
  simp only [List.map_cons,List.map_nil,List.mem_singleton] at hb
  have:=(List.mem_filter.1 hx).2
  rw [hb] at e
  simp [e] at this
 have hlen:((l.filter (fun x:Verdict=>x.Trace != v.Trace)++[v]).length)≤l.length+1:=by
  have:=List.length_filter_le (fun x:Verdict=>x.Trace != v.Trace) l
  rw [List.length_append];simp only [List.length_cons,List.length_nil];omega
 have hn:=h.n
 by_cases c:(((l.filter (fun x:Verdict=>x.Trace != v.Trace)++[v]).length:Nat):Int) > most
 · rw [if_pos c]
   refine ⟨⟨fun x hx=>hf x (List.mem_of_mem_drop hx),List.Nodup.sublist ((List.drop_sublist _ _).map _) hu,by show (((List.drop 1 _).length:Nat):Int)≤most;rw [List.length_drop];omega⟩,?_⟩
   have hp:0 < (l.filter (fun x:Verdict=>x.Trace != v.Trace)++[v]).length:=by rw [List.length_append];simp
   have:=hf ((l.filter (fun x:Verdict=>x.Trace != v.Trace)++[v])[0]?.getD default) (by rw [List.getElem?_eq_getElem hp];exact List.getElem_mem hp)
   show 0≤((l.filter (fun x:Verdict=>x.Trace != v.Trace)++[v])[0]?.getD default).Trace
   omega
 · rw [if_neg c]
   exact ⟨⟨hf,hu,Int.not_lt.1 c⟩,Int.le_refl 0⟩
theorem CaV.next {next next' most:Int} {l:List Verdict} (h:CaV next most l) (hn:next≤next'):CaV next' most l :=
 ⟨fun x hx=>by have:=h.v x hx;exact ⟨this.1,this.2.1,by omega⟩,h.u,h.n⟩
theorem c1r {l:List Verdict} {k:Int} (h:(bQ l k).2=true):(bQ l k).1∈l∧(bQ l k).1.Trace=k:=by
 have key:∀(m:List Verdict) (i:Nat),(∃v,aJ (nE k) i () m=.done (v,true)∧v∈m∧v.Trace=k)∨aJ (nE k) i () m=.fin ():=by
  intro m
  induction m with
  | nil=>intro i;exact .inr rfl
  | cons a m ih =>
    intro i
    rw [aJ]
    unfold nE
    cases c:(a.Trace==k) with
    | true=>exact .inl ⟨a,rfl,List.mem_cons_self ..,by simpa using c⟩
    | false =>
      rcases ih (i+1) with ⟨v,e,hv,hk⟩ | e
      · exact .inl ⟨v,e,List.mem_cons_of_mem _ hv,hk⟩
      · exact .inr e
 unfold bQ at h ⊢
 rcases key l 0 with ⟨v,e,hv,hk⟩ | e
 · rw [e] at h ⊢;exact ⟨hv,hk⟩
 · rw [e] at h;cases h
theorem c6b {s:ByteArray} (h:lY s=true):s.size≤8:=by
 unfold lY at h
 obtain ⟨_,v,_,h2⟩:=zW (P:=fun _=>True) (fun i s r=>by
  unfold tP
  exact dO (fun _ e=>by cases e;rfl) (fun _=>dO (fun _ e=>by cases e;rfl) (fun _ e=>by cases e))) (fun i s v=>by
  unfold tP
  exact dO (fun _ e=>by cases e) (fun _=>dO (fun _ e=>by cases e) (fun _ e=>by cases e))) (fun i s v _=>trivial) _ _ _ h
 have:=(bD.1 h2).2
 omega
theorem c3u {s:ByteArray} (h:kT s=true):s.size≤20:=by
 unfold kT at h
 obtain ⟨_,v,_,h2⟩:=zW (P:=fun _=>True) (fun i s r=>by
  unfold mR
  exact dO (fun _ e=>by cases e;rfl) (fun _=>dO (fun _ e=>by cases e;rfl) (fun _=>dO (fun _ e=>by cases e;rfl) (fun _ e=>by cases e)))) (fun i s v=>by
  unfold mR
  exact dO (fun _ e=>by cases e) (fun _=>dO (fun _ e=>by cases e) (fun _=>dO (fun _ e=>by cases e) (fun _ e=>by cases e)))) (fun i s v _=>trivial) _ _ _ h
 have:=of_decide_eq_true h2
 omega
theorem a9d {a:Attr} (h:jO a=true):a.Key.size≤8∧(a.Num=false→a.Text.size≤20):=by
 unfold jO at h
 cases hn:lY a.Key with
 | false=>rw [hn] at h;cases h
 | true =>
   refine ⟨c6b hn,fun h0=>?_⟩
   rw [hn,h0,Bool.not_true,cond_false,cond_false] at h
   cases hp:kT a.Text with
   | true=>exact c3u hp
   | false =>
     rw [hp] at h
     cases hz:(a.N==0) <;> rw [hz] at h <;> cases h
theorem c1h {a:Attr} (h:jO a=true):0≤dV a:=by
 unfold dV
 have h1:=a9d h
 cases hn:a.Num with
 | true=>rw [cond_true,Go.Ev.wrap_small (by omega) (by omega)];omega
 | false=>rw [cond_false];have:=h1.2 hn;rw [Go.Ev.wrap_small (by omega) (by omega)];omega
theorem a0g {α:Type} {f:α→Int}:∀{l:List α},(∀x∈l,0≤f x)→0≤aY f l
 | [],_=>Int.le_refl 0
 | a :: l,h=>by
   have h1:=h a (List.mem_cons_self ..)
   have h2:=a0g (f:=f) (l:=l) (fun x hx=>h x (List.mem_cons_of_mem _ hx))
   show 0≤f a+aY f l
   omega
theorem c3c {α:Type} {f:α→Int}:∀{l:List α} {x:α},(∀x∈l,0≤f x)→x∈l→f x≤aY f l
 | a :: l,x,h,hx=>by
   have h1:=h a (List.mem_cons_self ..)
   have h2:=a0g (f:=f) (l:=l) (fun x hx=>h x (List.mem_cons_of_mem _ hx))
   show f x≤f a+aY f l
   rcases List.mem_cons.1 hx with rfl | hx
   · omega
   · have:=c3c (f:=f) (fun x hx=>h x (List.mem_cons_of_mem _ hx)) hx
     omega
theorem c9q {l:List Attr} (h:nZ l=true):(∀a∈l,jO a=true)∧l.length≤4:=by
 unfold nZ at h
 obtain ⟨h1,v,_,h2⟩:=zV (P:=fun a=>jO a=true) (fun i s a r=>by
  unfold kV
  exact dO (fun _ e=>by cases e;rfl) (fun _=>dO (fun _=>dO (fun _ e=>by cases e;rfl) (fun _ e=>by cases e)) (fun _ e=>by cases e))) (fun i s a v=>by
  unfold kV
  exact dO (fun _ e=>by cases e) (fun _=>dO (fun _=>dO (fun _ e=>by cases e) (fun _ e=>by cases e)) (fun _ e=>by cases e))) (fun i s a v=>by
  unfold kV
  exact dO (fun _ e=>by cases e) (fun q _=>nf q)) l 0 () h
 have h2:=of_decide_eq_true h2
 exact ⟨h1,by omega⟩
theorem a7z {s:Span} (h:eH s=true):(1≤s.Trace∧s.Trace≤999)∧(∀a∈s.Attrs,jO a=true)∧0≤cY s∧cY s≤96:=by
 unfold eH at h
 have step:∀{a b:Bool},(bif a then b else false)=true→a=true∧b=true:=by intro a b h;cases a <;> cases b <;> first | exact ⟨rfl,rfl⟩ | cases h
 obtain ⟨h1,h⟩:=step h
 obtain ⟨h2,h⟩:=step h
 obtain ⟨h3,h⟩:=step h
 obtain ⟨h4,h⟩:=step h
 obtain ⟨h5,h⟩:=step h
 have h6:=of_decide_eq_true h
 have ha:=c9q h5
 refine ⟨bD.1 h1,ha.1,?_,h6⟩
 have hs:∀a∈s.Attrs,0≤dV a∧dV a≤100:=fun a hm=>by
  have hk:=ha.1 a hm
  refine ⟨c1h hk,?_⟩
  unfold dV
  have h1:=a9d hk
  cases hn:a.Num with
  | true=>rw [cond_true,Go.Ev.wrap_small (by omega) (by omega)];omega
  | false=>rw [cond_false];have:=h1.2 hn;rw [Go.Ev.wrap_small (by omega) (by omega)];omega
 have hsum:∀l:List Attr,(∀a∈l,0≤dV a∧dV a≤100)→0≤aY dV l∧aY dV l≤100*((l.length:Nat):Int):=by
  intro l
  induction l with
  | nil=>intro _;exact ⟨Int.le_refl 0,by show (0:Int)≤100*((0:Nat):Int);omega⟩
  | cons a l ih =>
    intro hl
    have h1:=hl a (List.mem_cons_self ..)
    have h2:=ih (fun x hx=>hl x (List.mem_cons_of_mem _ hx))
    show 0≤dV a+aY dV l∧dV a+aY dV l≤100*(((l.length+1:Nat)):Int)
    omega
 have hq:=hsum s.Attrs hs
 have hl:=ha.2
 unfold cY
 rw [xC (f:=dV) (b:=xG) s.Attrs 0 12 (Go.Ev.wrap_small (by omega) (by omega)) (fun i s a _ _=>rfl)]
 show 0≤IntKind.i64.wrap (12+aY dV s.Attrs)
 rw [Go.Ev.wrap_small (by omega) (by omega)]
 omega
theorem b3d {now next:Int} {t:Trail} (h:TrV now next t):0≤byT t:=a0g fun s hs=>(a7z (h.sp s hs).1).2.2.1
theorem b3c {t:Trail} (h:0≤byT t∧byT t≤1000):kU t=byT t:=by
 unfold kU sL
 rw [xC (f:=cY) (b:=pA) t.Spans 0 0 (Go.Ev.wrap_small (by omega) (by omega)) (fun i s a _ _=>rfl)]
 show IntKind.i64.wrap (0+aY cY t.Spans)=_
 have:byT t=aY cY t.Spans:=rfl
 rw [Go.Ev.wrap_small (by omega) (by omega)]
 omega
structure DeV (c:Conf) (tm:Int) (d:Deed):Prop where
 op:1≤d.Op∧d.Op≤4
 nn:0≤d.Took∧0≤d.N∧0≤d.Forgot∧0≤d.Now∧0≤d.Inv
 iv:d.Inv < tm
 li:d.Lin=-1∨(d.Inv≤d.Lin∧d.Lin < tm)
 re:d.Res=-1∨(d.Lin≠-1∧d.Lin≤d.Res∧d.Res < tm)
 c0:d.Op≠1∨d.Lin=-1→d.Code=0
 c1:d.Op=1→d.Lin≠-1→(1≤d.Code∧d.Code≤5)∧(d.Code=5↔iA c d.S=false)∧((d.Code=1∨d.Code=2∨d.Code=3)↔1≤d.Stamp)
 c2:d.Op=1→d.Lin=-1→iA c d.S=true
theorem DeV.later {c:Conf} {tm tm':Int} {d:Deed} (h:DeV c tm d) (ht:tm≤tm'):DeV c tm' d :=
 { h with iv:=by have:=h.iv;omega,li:=by have:=h.li;omega,re:=by have:=h.re;omega }
structure WV (n:Nat) (tm:Int) (w:World):Prop where
 c:dH w.C=true
 nx:1≤w.Next∧w.Next≤(n:Int)+1
 sn:((w.St.length:Nat):Int)=w.C.Stripes
 st:StV w.W.Now w.Next w.St
 us:w.Used=aY byT (bW w.St)∧w.Used≤w.C.Budget
 bu:BuV w.C w.W.Now w.B
 ca:CaV w.Next w.C.Cache w.Cache
 kn:KnV w.Next w.St w.W w.Due w.Tasks
 sh:w.Shut=true→aI w.W=[]
 qu:((w.Queue.length:Nat):Int)≤w.C.Queue∧(∀x∈w.Queue,uX x)∧∀x∈w.Out,uX x
 de:∀d∈w.Deeds,DeV w.C tm d
 tx:∀k,k < 5→TX w.Next w.Deeds k (w.Tasks[k]?.getD default)
 lk:LkV w.St.length (fun i=>(w.St[i]?.getD default).Held) w.Tasks w.RuleHeld
theorem WV.later {n m:Nat} {tm tm':Int} {w:World} (h:WV n tm w) (hn:n≤m) (ht:tm≤tm'):WV m tm' w :=
 { h with nx:=by have:=h.nx;omega,de:=fun d hd=>(h.de d hd).later ht }
theorem WV.now {n:Nat} {tm:Int} {w:World} (h:WV n tm w):0≤w.W.Now∧w.W.Now≤100000:=⟨h.kn.wh.now.1,h.kn.wn⟩
theorem WV.time {n:Nat} {tm t:Int} {w:World} (h:WV n tm w):WV n tm { w with Time:=t }:={ h with }
theorem vT {S:List Stripe} {i0:Nat} {a:Int} {L:List Trail} (h:i0 < S.length):(fun i=>((S.set i0 (Stripe.mk a L))[i]?.getD default).Held) i0=a∧∀i,i≠i0→(fun i=>((S.set i0 (Stripe.mk a L))[i]?.getD default).Held) i=(S[i]?.getD default).Held:=by
 refine ⟨?_,fun i hi=>?_⟩
 · show ((S.set i0 _)[i0]?.getD default).Held=a
   rw [dT,if_pos ⟨rfl,h⟩]
 · show ((S.set i0 _)[i]?.getD default).Held=_
   rw [dT,if_neg (fun c=>hi c.1.symm)]
theorem mF {S:List Stripe} (h:1≤S.length∧S.length≤16) (t:Int):(aD t ((S.length:Nat):Int)).toNat < S.length∧aD t ((S.length:Nat):Int)=(((aD t ((S.length:Nat):Int)).toNat:Nat):Int):=by
 have:=stO (t:=t) h
 omega
theorem b1x {n:Nat} {tm:Int} {w:World} {k c s:Int} (h:WV n tm w) (ht:0≤w.Time∧w.Time < tm) (hiv:∀d∈w.Deeds,d.Inv≤w.Time) (hT:w.Tasks.length=5) (hd:∀j,j < 5→TD w.Deeds j (w.Tasks[j]?.getD default)) (hk:k.toNat < 5) (ho:(w.Tasks[k.toNat]?.getD default).Op=1) (hp:(w.Tasks[k.toNat]?.getD default).Pc=1) (hc:1≤c∧c≤4) (hs:(c=1∨c=2∨c=3)↔1≤s):WV n tm (fT w k c s):=by
 have hx:=h.tx _ hk
 obtain ⟨d1,d2,d3,d4,d5⟩:=(hd _ hk).own (.inl ho)
 have d5:=d5 (.inl ho)
 rw [ho] at d4
 obtain ⟨i1,i2⟩:=mF h.st.ln (w.Tasks[k.toNat]?.getD default).S.Trace
 have hds:=hx.ds ho
 have hm:=oF d2
 have hdv:=h.de _ hm
 have hiv':=hiv _ hm
 have hnow:=h.now
 unfold fT
 refine { h with sn:=?_,st:=?_,us:=?_,kn:=?_,de:=?_,tx:=?_,lk:=?_ }
 · show (((List.length (w.St.set _ _)):Nat):Int)=_
   rw [List.length_set];exact h.sn
 · exact h.st.lock
 · show w.Used=aY byT (bW (w.St.set _ _))∧_
   rw [mP];exact h.us
 · exact (h.kn.lock).task hT hk (.inl (by rw [ho];decide)) (by decide)
 · refine a0k h.de ?_
   refine { op:=by show 1≤(_:Int)∧_≤4;rw [d4];decide,nn:=⟨hdv.nn.1,hdv.nn.2.1,hdv.nn.2.2.1,hnow.1,hdv.nn.2.2.2.2⟩,iv:=hdv.iv,li:=.inr ⟨hiv',ht.2⟩,re:=.inr ⟨by show w.Time≠-1;omega,Int.le_refl _,ht.2⟩,c0:=fun q=>?_,c1:=fun _ _=>⟨by show 1≤c∧c≤5;omega,?_,hs⟩,c2:=fun _ q=>?_ }
   · rcases q with q | q
     · exact absurd d4 q
     · have q:w.Time=-1:=q
       omega
   · have:=hdv.c2 d4 d5
     show c=5↔iA w.C (w.Deeds[(w.Tasks[k.toNat]?.getD default).H.toNat]?.getD default).S=false
     rw [this]
     exact ⟨fun q=>(by omega),fun q=>(by cases q)⟩
   · have q:w.Time=-1:=q
     omega
 · exact pT (fun j hj hne=>(h.tx j hj).set (hd j hj) d3 hne) (fun _=>a7w) hT
 · show LkV (List.length (w.St.set _ _)) _ (w.Tasks.set _ _) w.RuleHeld
   rw [List.length_set]
   obtain ⟨f1,f2⟩:=vT (a:=-1) (L:=(w.St[(aD (w.Tasks[k.toNat]?.getD default).S.Trace ((w.St.length:Nat):Int)).toNat]?.getD default).L) i1
   refine h.lk.drop hT hk (i0:=(aD (w.Tasks[k.toNat]?.getD default).S.Trace ((w.St.length:Nat):Int)).toNat) ?_ ?_ f1 f2 ?_
   · unfold hS
     rw [if_pos ⟨ho,hp⟩];exact i2
   · unfold hS
     rw [if_neg (by rintro ⟨q,_⟩;cases q),if_neg (by rintro (⟨q,_⟩ | ⟨q,_⟩) <;> cases q)]
   · unfold hR
     rw [ho]
     exact ⟨fun q=>(by cases q.1),fun q=>(by cases q.1)⟩
theorem LkV.congr {n n':Nat} {held held':Nat→Int} {T:List Task} {rule:Int} (h:LkV n held T rule) (hn:n'=n) (hh:∀i,held' i=held i):LkV n' held' T rule:=by
 have e:held'=held:=funext hh
 rw [hn,e];exact h
theorem c7y {n:Nat} {tm:Int} {w:World} {s:Span} (h:WV n tm w) (hs:eH s=true):IntKind.i64.wrap (w.Used+cY s)=w.Used+cY s∧0≤w.Used∧w.Used≤190:=by
 have h1:=a7z hs
 have h2:=h.us
 have h3:=wH h.c
 have h4:0≤aY byT (bW w.St):=a0g fun t ht=>b3d (h.st.tv t ht).1
 refine ⟨Go.Ev.wrap_small (by omega) (by omega),by omega,by omega⟩
def LR (n:Nat) (w:World) (z:Bool×World):Prop:=z.1=true→WV (n+1) (w.Time+1) z.2∧z.2.Time=w.Time∧z.2.Due=w.Due∧z.2.Out=w.Out
theorem d6h {n m:Nat} {w:World} {k:Int} (h:WV n w.Time w) (hcb:CB n 0 w) (hw:WI m w) (hm:m≤880000) (hn:n≤1000000) (hk:k.toNat < 5) (ho:(w.Tasks[k.toNat]?.getD default).Op=1) (hp:(w.Tasks[k.toNat]?.getD default).Pc=1):LR n w (fM w k):=by
 have h':WV (n+1) (w.Time+1) w:=h.later (Nat.le_succ n) (by omega)
 have hiv:∀d∈w.Deeds,d.Inv≤w.Time:=fun d hd=>by have:=(h.de d hd).iv;omega
 have ht:0≤w.Time∧w.Time < w.Time+1:=⟨hcb.tm.1,by omega⟩
 have hx:=h.tx _ hk
 obtain ⟨x1,x2,x3⟩:=hx.of ho
 have hsp:=a7z x2
 have hnow:=h.now
 have hnx:=h.nx
 unfold fM
 refine aH (P:=LR n w) (fun _ _=>⟨b1x (c:=4) (s:=0) h' ht hiv hcb.tl hcb.tk hk ho hp (by decide) (by decide),rfl,rfl,rfl⟩) (fun hsh=>?_)
 show LR n w (Step.get _ (fX w k))
 have hcv:∀{q:Int},(bQ w.Cache q).2=true→1≤(bQ w.Cache q).1.Stamp:=fun hq=>(h.ca.v _ (c1r hq).1).2.1
 have key:(∃r,fX w k=.done r∧LR n w r)∨fX w k=.next ():=by
  unfold fX
  refine aH (P:=fun z:Step Unit (Bool×World)=>(∃r,z=.done r∧LR n w r)∨z=.next ()) (fun q1=>aH (P:=fun z:Step Unit (Bool×World)=>(∃r,z=.done r∧LR n w r)∨z=.next ()) (fun q2=>aH (P:=fun z:Step Unit (Bool×World)=>(∃r,z=.done r∧LR n w r)∨z=.next ()) (fun _=>.inl ⟨_,rfl,fun q=>by cases q⟩) (fun q3=>.inl ⟨_,rfl,fun _=>?_⟩)) (fun _=>.inr rfl)) (fun _=>.inr rfl)
  have q3:=of_decide_eq_false q3
  have hq:WV (n+1) (w.Time+1) { w with Queue:=(w.Queue++[(Item.mk (bQ w.Cache (w.Tasks[(k).toNat]?.getD default).S.Trace).1.Stamp (aX (w.Tasks[(k).toNat]?.getD default).S))]) }:={ h' with
   qu:=⟨by show (((List.length (w.Queue++[_])):Nat):Int)≤w.C.Queue;rw [jP];omega,fun x hx=>by
    rcases List.mem_append.1 hx with hx | hx
    · exact h.qu.2.1 x hx
    · obtain rfl:=List.mem_singleton.1 hx;exact ⟨hcv q1,x2⟩,h.qu.2.2⟩ }
  have hs:=hcv q1
  exact ⟨b1x (c:=2) hq ht hiv hcb.tl hcb.tk hk ho hp (by decide) ⟨fun _=>hs,fun _=>.inr (.inl rfl)⟩,rfl,rfl,rfl⟩
 rcases key with ⟨r,e,hr⟩ | e
 · rw [e];exact hr
 · rw [e]
   refine aH (P:=LR n w) (fun q1 _=>?_) (fun _=>aH (P:=LR n w) (fun _ _=>?_) (fun q2=>?_))
   · have hs:=hcv q1
     exact ⟨b1x (c:=3) h' ht hiv hcb.tl hcb.tk hk ho hp (by decide) ⟨fun _=>hs,fun _=>.inr (.inr rfl)⟩,rfl,rfl,rfl⟩
   · obtain ⟨i1,i2⟩:=mF h.st.ln (w.Tasks[k.toNat]?.getD default).S.Trace
     obtain ⟨f1,f2⟩:=vT (a:=-1) (L:=(w.St[(aD (w.Tasks[k.toNat]?.getD default).S.Trace ((w.St.length:Nat):Int)).toNat]?.getD default).L) i1
     have hon:=hx.on ho (by rw [hp];decide)
     refine ⟨{ h' with sn:=?_,st:=h'.st.lock,us:=?_,kn:=(h'.kn.lock).task hcb.tl hk (.inl (by rw [ho];decide)) (by show (w.Tasks[k.toNat]?.getD default).Op≠2;rw [ho];decide),tx:=?_,lk:=?_ },rfl,rfl,rfl⟩
     · show (((List.length (w.St.set _ _)):Nat):Int)=_
       rw [List.length_set];exact h.sn
     · show w.Used=aY byT (bW (w.St.set _ _))∧_
       rw [mP];exact h.us
     · refine pT (fun j hj _=>h'.tx j hj) (fun _=>{ h'.tx _ hk with pc:=.inr (.inr (.inl rfl)),no:=fun q=>(by rw [show (w.Tasks[k.toNat]?.getD default).Op=0 from q] at ho;cases ho),o3:=fun _ q=>(by cases q),on:=fun _ _=>hon,hd:=fun q=>(by rw [show (w.Tasks[k.toNat]?.getD default).Op=2 from q] at ho;cases ho),dl:=fun q=>(by rw [show (w.Tasks[k.toNat]?.getD default).Op=2 from q] at ho;cases ho) }) hcb.tl
     · show LkV (List.length (w.St.set _ _)) _ (w.Tasks.set _ _) w.RuleHeld
       rw [List.length_set]
       refine h.lk.drop hcb.tl hk (i0:=(aD (w.Tasks[k.toNat]?.getD default).S.Trace ((w.St.length:Nat):Int)).toNat) ?_ ?_ f1 f2 ?_
       · unfold hS
         rw [if_pos ⟨ho,hp⟩];exact i2
       · unfold hS
         rw [if_neg (by rintro ⟨_,q⟩;cases q),if_neg (by
          rintro (⟨_,q⟩ | ⟨q,_⟩)
          · cases q
          · rw [show (w.Tasks[k.toNat]?.getD default).Op=2 from q] at ho;cases ho)]
       · unfold hR
         rw [ho]
         exact ⟨fun q=>(by cases q.1),fun q=>(by cases q.1)⟩
   · have q2:=of_decide_eq_false q2
     obtain ⟨u1,u2,u3⟩:=c7y h x2
     rw [u1] at q2
     have hbud:=wH h.c
     show LR n w (Step.get _ (fW w k))
     unfold fW
     obtain ⟨i1,i2⟩:=mF h.st.ln (w.Tasks[k.toNat]?.getD default).S.Trace
     cases hf:(aC w.St (w.Tasks[k.toNat]?.getD default).S.Trace).2 with
     | true =>
       intro _
       obtain ⟨a1,R,a2,a3⟩:=c9u (a:=(aC w.St (w.Tasks[k.toNat]?.getD default).S.Trace).1.Stamp) (b:=w.W.Now) (c:=(w.St[((aD (w.Tasks[k.toNat]?.getD default).S.Trace (((w.St).length:Nat):Int))).toNat]?.getD default).Held) h.st x2 hf
       have hst:=(h.st.tv _ (a9x h.st hf).1).1.st
       have hX:WV (n+1) (w.Time+1) { w with St:=(List.set w.St ((aD (w.Tasks[(k).toNat]?.getD default).S.Trace (((w.St).length:Nat):Int))).toNat (Stripe.mk (w.St[((aD (w.Tasks[(k).toNat]?.getD default).S.Trace (((w.St).length:Nat):Int))).toNat]?.getD default).Held (eI (w.St[((aD (w.Tasks[(k).toNat]?.getD default).S.Trace (((w.St).length:Nat):Int))).toNat]?.getD default).L (w.Tasks[(k).toNat]?.getD default).S (aC w.St (w.Tasks[(k).toNat]?.getD default).S.Trace).1.Stamp w.W.Now))),Used:=(IntKind.i64.wrap (w.Used+(cY (w.Tasks[(k).toNat]?.getD default).S))) }:={ h' with
        sn:=by show (((List.length (w.St.set _ _)):Nat):Int)=_;rw [List.length_set];exact h.sn
        st:=a1
        us:=by
         refine ⟨?_,by show IntKind.i64.wrap _≤w.C.Budget;rw [u1];omega⟩
         show IntKind.i64.wrap (w.Used+_)=_
         rw [u1]
         have p1:=a2c (f:=byT) a3
         have p2:=a2c (f:=byT) a2
         have p3:=h.us.1
         have e4:byT { (aC w.St (w.Tasks[k.toNat]?.getD default).S.Trace).1 with Spans:=(aC w.St (w.Tasks[k.toNat]?.getD default).S.Trace).1.Spans++[(w.Tasks[k.toNat]?.getD default).S] }=byT (aC w.St (w.Tasks[k.toNat]?.getD default).S.Trace).1+cY (w.Tasks[k.toNat]?.getD default).S:=a9q
         refine Eq.trans ?_ p1.symm
         show _=byT _+aY byT R
         have p2:aY byT (bW w.St)=byT (aC w.St (w.Tasks[k.toNat]?.getD default).S.Trace).1+aY byT R:=p2
         rw [e4];omega
        kn:=h'.kn.swap (fun t ht=>by
         rcases List.mem_cons.1 (a3.subset ht) with rfl | ht
         · exact ⟨_,a2.symm.subset (List.mem_cons_self ..),rfl,rfl⟩
         · exact ⟨t,a2.symm.subset (List.mem_cons_of_mem _ ht),rfl,rfl⟩) (fun t ht=>by
         rcases List.mem_cons.1 (a2.subset ht) with rfl | ht
         · exact ⟨_,a3.symm.subset (List.mem_cons_self ..),rfl,rfl⟩
         · exact ⟨t,a3.symm.subset (List.mem_cons_of_mem _ ht),rfl,rfl⟩)
        lk:=h.lk.congr (by show List.length (w.St.set _ _)=_;rw [List.length_set]) (fun i=>by
         show ((w.St.set _ _)[i]?.getD default).Held=_
         rw [dT]
         by_cases c:(aD (w.Tasks[k.toNat]?.getD default).S.Trace ((w.St.length:Nat):Int)).toNat=i∧(aD (w.Tasks[k.toNat]?.getD default).S.Trace ((w.St.length:Nat):Int)).toNat < w.St.length
         · rw [if_pos c,←c.1]
         · rw [if_neg c]) }
       exact ⟨b1x (c:=1) (s:=(aC w.St (w.Tasks[k.toNat]?.getD default).S.Trace).1.Stamp) hX ht hiv hcb.tl hcb.tk hk ho hp (by decide) ⟨fun _=>hst.1,fun _=>.inl rfl⟩,rfl,rfl,rfl⟩
     | false =>
       intro _
       have hdl:=c2f h.c hnow
       have hwn:IntKind.i64.wrap (w.Next+1)=w.Next+1:=Go.Ev.wrap_small (by omega) (by omega)
       obtain ⟨p1,p2,p3⟩:=c5v (t:=Timer.mk w.Next (w.Tasks[k.toNat]?.getD default).S.Trace (gU w.C w.W.Now)) h.kn.wh h.kn.un (by omega) ⟨hnx.1,hsp.1,by show w.W.Now+1≤gU w.C w.W.Now∧gU w.C w.W.Now≤2147483647;rw [hdl.1];omega⟩ (fun x hx e=>by
        have:=(h.kn.ti x (List.mem_append.2 (.inl hx))).1.2
        have e:x.Id=w.Next:=e
        omega) (by have:=h.kn.six h.st;omega)
       obtain ⟨a1,a2⟩:=c9v (n:=m) (c:=(w.St[((aD (w.Tasks[k.toNat]?.getD default).S.Trace (((w.St).length:Nat):Int))).toNat]?.getD default).Held) h.st hw.s (by omega) hnow.1 hnx.1 x2 hsp.1 x3 hf
       have hX:WV (n+1) (w.Time+1) { w with W:=(iW w.W (Timer.mk w.Next (w.Tasks[(k).toNat]?.getD default).S.Trace (gU w.C w.W.Now))).1,Next:=(IntKind.i64.wrap (w.Next+1)),St:=(List.set w.St ((aD (w.Tasks[(k).toNat]?.getD default).S.Trace (((w.St).length:Nat):Int))).toNat (Stripe.mk (w.St[((aD (w.Tasks[(k).toNat]?.getD default).S.Trace (((w.St).length:Nat):Int))).toNat]?.getD default).Held (eI (w.St[((aD (w.Tasks[(k).toNat]?.getD default).S.Trace (((w.St).length:Nat):Int))).toNat]?.getD default).L (w.Tasks[(k).toNat]?.getD default).S w.Next (iW w.W (Timer.mk w.Next (w.Tasks[(k).toNat]?.getD default).S.Trace (gU w.C w.W.Now))).1.Now))),Used:=(IntKind.i64.wrap (w.Used+(cY (w.Tasks[(k).toNat]?.getD default).S))) }:=by
        have hst2:∀j,j < 5→(w.Tasks[j]?.getD default).Op=2→(w.Tasks[j]?.getD default).Stamp < w.Next:=fun j hj hop=>((h.tx j hj).ju hop).2.2.2.2
        rw [p2,hwn,u1]
        refine { h' with nx:=by show 1≤w.Next+1∧w.Next+1≤((n+1:Nat):Int)+1;omega,sn:=?_,st:=?_,us:=⟨?_,by show w.Used+_≤w.C.Budget;omega⟩,bu:=?_,ca:=h.ca.next (by show w.Next≤w.Next+1;omega),kn:=?_,sh:=fun q=>?_,tx:=fun j hj=>(h.tx j hj).next (by show w.Next≤w.Next+1;omega),lk:=?_ }
        · show (((List.length (w.St.set _ _)):Nat):Int)=_;rw [List.length_set];exact h.sn
        · show StV (iW _ _).1.Now (w.Next+1) _
          rw [p2];exact a1
        · have e1:=a2c (f:=byT) a2
          have e3:=h.us.1
          refine Eq.trans ?_ e1.symm
          show w.Used+cY (w.Tasks[k.toNat]?.getD default).S=(cY (w.Tasks[k.toNat]?.getD default).S+0)+aY byT (bW w.St)
          omega
        · show BuV w.C (iW _ _).1.Now w.B
          rw [p2];exact h.bu
        · exact h.kn.new h.st hnx.1 hst2 hsp.1 (by rw [hdl.1];omega) a2 rfl rfl
        · rw [show w.Shut=true from q] at hsh;cases hsh
        · exact h.lk.congr (by show List.length (w.St.set _ _)=_;rw [List.length_set]) (fun i=>by
           show ((w.St.set _ _)[i]?.getD default).Held=_
           rw [dT]
           by_cases c:(aD (w.Tasks[k.toNat]?.getD default).S.Trace ((w.St.length:Nat):Int)).toNat=i∧(aD (w.Tasks[k.toNat]?.getD default).S.Trace ((w.St.length:Nat):Int)).toNat < w.St.length
           · rw [if_pos c,←c.1]
           · rw [if_neg c])
       exact ⟨b1x (c:=1) (s:=w.Next) hX ht hiv hcb.tl hcb.tk hk ho hp (by decide) ⟨fun _=>hnx.1,fun _=>.inl rfl⟩,rfl,rfl,rfl⟩
theorem c4a {S:List Stripe} (h:(cN S).2=true):(cN S).1∈bW S:=by
 have key:(cN S).2=true→(cN S).1∈bW S:=by
  unfold cN
  refine lF (P:=fun s:Trail×Bool=>s.2=true→s.1∈bW S) (Q:=fun z:Trail×Bool=>z.2=true→z.1∈bW S) (nK (P:=fun _ (s:Trail×Bool)=>s.2=true→s.1∈bW S) (Q:=fun z:Trail×Bool=>z.2=true→z.1∈bW S) (fun q=>by cases q) (fun i s hi hI=>?_) (fun s hI=>hI)) (fun v hv hq=>by rw [rS];exact hv hq)
  unfold vK
  have hm:∀t∈(S[i]).L,t∈bW S:=fun t ht=>vO.2 ⟨i,hi,by rw [List.getElem?_eq_getElem hi];exact ht⟩
  refine lF (P:=fun s:Trail×Bool=>s.2=true→s.1∈bW S) (Q:=fun z:Step (Trail×Bool) (Trail×Bool)=>(∀v,z=.next v→v.2=true→v.1∈bW S)∧(∀v,z=.stop v→v.2=true→v.1∈bW S)∧∀r,z=.done r→r.2=true→r.1∈bW S) (nK (P:=fun _ (s:Trail×Bool)=>s.2=true→s.1∈bW S) hI (fun j t hj hJ=>?_) (fun s hI=>hI)) (fun v hv=>dD (P:=fun s:Trail×Bool=>s.2=true→s.1∈bW S) hv)
  unfold vJ
  exact yB (tT (fun _=>hm _ (List.getElem_mem hj))) (yB (tT (fun _=>hm _ (List.getElem_mem hj))) (tT hJ))
 exact key h
theorem d5t {n:Nat} {w:World} {k:Int} (h:WV n w.Time w) (hcb:CB n 0 w) (hk:k.toNat < 5) (hk0:0≤k) (ho:(w.Tasks[k.toNat]?.getD default).Op=1) (hp:(w.Tasks[k.toNat]?.getD default).Pc=2):LR n w (cL w k):=by
 have h':WV (n+1) (w.Time+1) w:=h.later (Nat.le_succ n) (by omega)
 have hx:=h'.tx _ hk
 have hon:=hx.on ho (by rw [hp];decide)
 have no0:∀{q:(w.Tasks[k.toNat]?.getD default).Op=0},False:=fun {q}=>by rw [q] at ho;cases ho
 have no2:∀{q:(w.Tasks[k.toNat]?.getD default).Op=2},False:=fun {q}=>by rw [q] at ho;cases ho
 have hhand:(w.Tasks[k.toNat]?.getD default).Hand=[]:=by
  by_cases c:(w.Tasks[k.toNat]?.getD default).Hand=[]
  · exact c
  · exact (no2 (q:=((hcb.tk _ hk).hand c).1)).elim
 unfold cL
 refine aH (P:=LR n w) (fun _ _=>?_) (fun q1=>aH (P:=LR n w) (fun _ q=>by cases q) (fun q2 _=>?_))
 · refine ⟨{ h' with kn:=h'.kn.task hcb.tl hk (.inl (by rw [ho];decide)) (by show (w.Tasks[k.toNat]?.getD default).Op≠2;rw [ho];decide),tx:=?_,lk:=?_ },rfl,rfl,rfl⟩
   · exact pT (fun j hj _=>h'.tx j hj) (fun _=>{ hx with pc:=.inl rfl,no:=fun q=>(no0 (q:=q)).elim,o3:=fun _ q=>(by cases q),on:=fun _ _=>hon,hd:=fun q=>(no2 (q:=q)).elim,dl:=fun q=>(no2 (q:=q)).elim }) hcb.tl
   · refine h.lk.same hcb.tl hk ?_ ?_
     · unfold hS
       rw [if_neg (by rintro ⟨_,q⟩;cases q),if_neg (by
        rintro (⟨_,q⟩ | ⟨q,_⟩)
        · cases q
        · exact no2 (q:=q)),if_neg (by rintro ⟨_,q⟩;rw [hp] at q;cases q),if_neg (by
        rintro (⟨_,q⟩ | ⟨q,_⟩)
        · rw [hp] at q;cases q
        · exact no2 (q:=q))]
     · unfold hR
       exact ⟨fun q=>(no2 (q:=q.1)).elim,fun q=>(no2 (q:=q.1)).elim⟩
 · have hf:(cN w.St).2=true:=by simpa using q1
   have hm:=c4a hf
   have htv:=(h.st.tv _ hm).1
   generalize (cN w.St).1=t at *
   obtain ⟨i1,i2⟩:=mF h.st.ln t.Id
   have q2:(w.St[((aD t.Id (((w.St).length:Nat):Int))).toNat]?.getD default).Held=-1:=by simpa using q2
   obtain ⟨f1,f2⟩:=vT (a:=k) (L:=(w.St[(aD t.Id ((w.St.length:Nat):Int)).toNat]?.getD default).L) i1
   refine ⟨{ h' with sn:=?_,st:=h'.st.lock,us:=?_,kn:=(h'.kn.lock).task hcb.tl hk (.inl (by rw [ho];decide)) (by show (w.Tasks[k.toNat]?.getD default).Op≠2;rw [ho];decide),tx:=?_,lk:=?_ },rfl,rfl,rfl⟩
   · show (((List.length (w.St.set _ _)):Nat):Int)=_
     rw [List.length_set];exact h.sn
   · show w.Used=aY byT (bW (w.St.set _ _))∧_
     rw [mP];exact h.us
   · exact pT (fun j hj _=>h'.tx j hj) (fun _=>{ hx with pc:=.inr (.inr (.inr rfl)),no:=fun q=>(no0 (q:=q)).elim,o3:=fun _ _=>⟨htv.id,htv.st⟩,on:=fun _ (q:(3:Int)≠3)=>absurd rfl q,ju:=fun q=>(no2 (q:=q)).elim,hi:=fun x (hx':x∈(w.Tasks[k.toNat]?.getD default).Hand)=>(by rw [hhand] at hx';cases hx'),hd:=fun q=>(no2 (q:=q)).elim,dl:=fun q=>(no2 (q:=q)).elim,dt:=fun q=>(no2 (q:=q)).elim }) hcb.tl
   · show LkV (List.length (w.St.set _ _)) _ (w.Tasks.set _ _) w.RuleHeld
     rw [List.length_set]
     refine h.lk.put hcb.tl hk (i0:=(aD t.Id ((w.St.length:Nat):Int)).toNat) i1 ?_ ?_ q2 (f1.trans (xV hk0)) f2 ?_
     · unfold hS
       rw [if_neg (by rintro ⟨_,q⟩;rw [hp] at q;cases q),if_neg (by
        rintro (⟨_,q⟩ | ⟨q,_⟩)
        · rw [hp] at q;cases q
        · exact no2 (q:=q))]
     · unfold hS
       rw [if_neg (by rintro ⟨_,q⟩;cases q),if_pos (.inl ⟨ho,rfl⟩)]
       exact i2
     · unfold hR
       exact ⟨fun q=>(no2 (q:=q.1)).elim,fun q=>(no2 (q:=q.1)).elim⟩
theorem b9u {n m:Nat} {tm:Int} {w:World} {k:Int} {b:Bool} (h:WV n tm w) (hw:WI m w) (hm:m≤880000) (hf:(aC w.St k).2=true) :
 IntKind.i64.wrap (w.Used - kU (aC w.St k).1)=aY byT (bW (cE w.St (aC w.St k).1.Id))∧aY byT (bW (cE w.St (aC w.St k).1.Id))≤w.C.Budget∧CaV w.Next w.C.Cache (eF w.Cache (Verdict.mk (aC w.St k).1.Id (aC w.St k).1.Stamp b) w.C.Cache).1∧0≤(eF w.Cache (Verdict.mk (aC w.St k).1.Id (aC w.St k).1.Stamp b) w.C.Cache).2:=by
 obtain ⟨d1,d2,d3,d4⟩:=c0d h.st hw.s (by omega) hf
 have hmem:=(a9x h.st hf).1
 have htv:=(h.st.tv _ hmem).1
 have hc:=wH h.c
 have p2:aY byT (bW w.St)=byT (aC w.St k).1+aY byT (bW (cE w.St (aC w.St k).1.Id)):=a2c (f:=byT) d2
 have n1:=b3d htv
 have n2:0≤aY byT (bW (cE w.St (aC w.St k).1.Id)):=a0g fun t ht=>b3d (d1.tv t ht).1
 have hu:=h.us
 have hb:=b3c (t:=(aC w.St k).1) (by omega)
 have hr:=c3t (v:=Verdict.mk (aC w.St k).1.Id (aC w.St k).1.Stamp b) h.ca hc.2.2.1.1 ⟨htv.id,htv.st⟩
 refine ⟨?_,by omega,hr.1,hr.2⟩
 rw [hb,Go.Ev.wrap_small (by omega) (by omega)]
 omega
def DR (n:Nat) (w z:World):Prop:=WV (n+1) (w.Time+1) z∧z.Time=w.Time∧z.Due=w.Due∧z.Out=w.Out∧z.Queue=w.Queue
end Go.Proofs.Tryz.Ev
