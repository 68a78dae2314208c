import Derived.Test.YtdjlkhhgaaddpaaGreatDoorLSaidWalkC
set_option linter.unusedSectionVars false
set_option linter.unusedVariables false
set_option linter.unusedSimpArgs false
namespace Go.Proofs.Tryz.Ev
open Go Go.Ev Go.Proofs
set_option maxHeartbeats 4000000
set_option maxRecDepth 100000
def impl_ItemText (p0:Item):ByteArray :=
 (((impl_NumText p0.Stamp)++(ByteArray.mk #[58,32]))++(impl_SpanText p0.S))
theorem cr_impl_ItemText (p0:Item) (hr0:Item.rg p0):FnOk prog 13 [.agg ((Item.cells false) p0)] ⟨.one (.v (.string (impl_ItemText p0))),[],[],false⟩:=by
 refine FnOk.intro (E:=env) envOk wide func13 rfl (by kernel_rfl) rfl rfl ?_
 have hg:=impl_ItemText.eq_1 p0
 have hown:∀g:ByteArray,AV.Own (AV.one (.v (.string g))):=fun g=>.v _
 refine seqE ?_
 refine litE (m:=0) rfl ?_
 refine seqE ?_
 refine .inl ⟨by kernel_rfl,?_⟩
 refine ⟨_,_,c_impl_NumText p0.Stamp,(FzAs.same _),?_⟩
 refine andE (by have z1:=impl_NumText_size hr0.Stamp;have z2:=impl_SpanText_size hr0.S;(try simp only [ByteArray.size_append]);simp only [bsz,List.size_toArray,List.length_cons,List.length_nil];omega) ?_
 refine ⟨_,_,c_impl_SpanText p0.S,(FzAs.same _),?_⟩
 refine andE (by have z1:=impl_NumText_size hr0.Stamp;have z2:=impl_SpanText_size hr0.S;(try simp only [ByteArray.size_append]);simp only [bsz,List.size_toArray,List.length_cons,List.length_nil];omega) ?_
 exact leafE hown hg
theorem c_impl_ItemText (p0:Item):FnOk prog 13 [.agg ((Item.cells false) p0)] ⟨.one (.v (.string (impl_ItemText p0))),[],[],false⟩ :=
 FnOk.fits ⟨_,func13,by kernel_rfl,by kernel_rfl⟩ (fun hf=>cr_impl_ItemText p0 (rg_Item hf.1))
def spec_ItemText (p0:Item):ByteArray :=
 (((spec_NumText p0.Stamp)++(ByteArray.mk #[58,32]))++(spec_SpanText p0.S))
theorem cr_spec_ItemText (p0:Item) (hr0:Item.rg p0):FnOk prog 14 [.agg ((Item.cells false) p0)] ⟨.one (.v (.string (spec_ItemText p0))),[],[],false⟩:=by
 refine FnOk.intro (E:=env) envOk wide func14 rfl (by kernel_rfl) rfl rfl ?_
 have hg:=spec_ItemText.eq_1 p0
 have hown:∀g:ByteArray,AV.Own (AV.one (.v (.string g))):=fun g=>.v _
 refine seqE ?_
 refine litE (m:=0) rfl ?_
 refine seqE ?_
 refine .inl ⟨by kernel_rfl,?_⟩
 refine ⟨_,_,c_spec_NumText p0.Stamp,(FzAs.same _),?_⟩
 refine andE (by have z1:=size_spec_NumText hr0.Stamp;have z2:=impl_SpanText_size hr0.S;rw [←main_SpanText hr0.S] at z2;(try simp only [ByteArray.size_append]);simp only [bsz,List.size_toArray,List.length_cons,List.length_nil];omega) ?_
 refine ⟨_,_,c_spec_SpanText p0.S,(FzAs.same _),?_⟩
 refine andE (by have z1:=size_spec_NumText hr0.Stamp;have z2:=impl_SpanText_size hr0.S;rw [←main_SpanText hr0.S] at z2;(try simp only [ByteArray.size_append]);simp only [bsz,List.size_toArray,List.length_cons,List.length_nil];omega) ?_
 exact leafE hown hg
def impl_CountText (p0:Count):ByteArray :=
 (((((((((impl_NumText p0.Came)++(ByteArray.mk #[32]))++(impl_NumText p0.Went))++(ByteArray.mk #[32]))++(impl_NumText p0.Moving))++(ByteArray.mk #[32]))++(impl_NumText p0.Held))++(ByteArray.mk #[32]))++(impl_NumText p0.Dropped))
theorem cr_impl_CountText (p0:Count) (hr0:Count.rg p0):FnOk prog 15 [.agg (Count.cells p0)] ⟨.one (.v (.string (impl_CountText p0))),[],[],false⟩:=by
 refine FnOk.intro (E:=env) envOk wide func15 rfl (by kernel_rfl) rfl rfl ?_
 have hg:=impl_CountText.eq_1 p0
 have hown:∀g:ByteArray,AV.Own (AV.one (.v (.string g))):=fun g=>.v _
 refine seqE ?_
 refine litE (m:=0) rfl ?_
 refine seqE ?_
 refine .inl ⟨by kernel_rfl,?_⟩
 refine ⟨_,_,c_impl_NumText p0.Came,(FzAs.same _),?_⟩
 refine andE (by have z1:=impl_NumText_size hr0.Came;have z2:=impl_NumText_size hr0.Went;have z3:=impl_NumText_size hr0.Moving;have z4:=impl_NumText_size hr0.Held;have z5:=impl_NumText_size hr0.Dropped;have q:(ByteArray.mk #[32]).size=1:=rfl;(try simp only [ByteArray.size_append]);omega) ?_
 refine ⟨_,_,c_impl_NumText p0.Went,(FzAs.same _),?_⟩
 refine andE (by have z1:=impl_NumText_size hr0.Came;have z2:=impl_NumText_size hr0.Went;have z3:=impl_NumText_size hr0.Moving;have z4:=impl_NumText_size hr0.Held;have z5:=impl_NumText_size hr0.Dropped;have q:(ByteArray.mk #[32]).size=1:=rfl;(try simp only [ByteArray.size_append]);omega) ?_
 refine andE (by have z1:=impl_NumText_size hr0.Came;have z2:=impl_NumText_size hr0.Went;have z3:=impl_NumText_size hr0.Moving;have z4:=impl_NumText_size hr0.Held;have z5:=impl_NumText_size hr0.Dropped;have q:(ByteArray.mk #[32]).size=1:=rfl;(try simp only [ByteArray.size_append]);omega) ?_
 refine ⟨_,_,c_impl_NumText p0.Moving,(FzAs.same _),?_⟩
 refine andE (by have z1:=impl_NumText_size hr0.Came;have z2:=impl_NumText_size hr0.Went;have z3:=impl_NumText_size hr0.Moving;have z4:=impl_NumText_size hr0.Held;have z5:=impl_NumText_size hr0.Dropped;have q:(ByteArray.mk #[32]).size=1:=rfl;(try simp only [ByteArray.size_append]);omega) ?_
 refine andE (by have z1:=impl_NumText_size hr0.Came;have z2:=impl_NumText_size hr0.Went;have z3:=impl_NumText_size hr0.Moving;have z4:=impl_NumText_size hr0.Held;have z5:=impl_NumText_size hr0.Dropped;have q:(ByteArray.mk #[32]).size=1:=rfl;(try simp only [ByteArray.size_append]);omega) ?_
 refine ⟨_,_,c_impl_NumText p0.Held,(FzAs.same _),?_⟩
 refine andE (by have z1:=impl_NumText_size hr0.Came;have z2:=impl_NumText_size hr0.Went;have z3:=impl_NumText_size hr0.Moving;have z4:=impl_NumText_size hr0.Held;have z5:=impl_NumText_size hr0.Dropped;have q:(ByteArray.mk #[32]).size=1:=rfl;(try simp only [ByteArray.size_append]);omega) ?_
 refine andE (by have z1:=impl_NumText_size hr0.Came;have z2:=impl_NumText_size hr0.Went;have z3:=impl_NumText_size hr0.Moving;have z4:=impl_NumText_size hr0.Held;have z5:=impl_NumText_size hr0.Dropped;have q:(ByteArray.mk #[32]).size=1:=rfl;(try simp only [ByteArray.size_append]);omega) ?_
 refine ⟨_,_,c_impl_NumText p0.Dropped,(FzAs.same _),?_⟩
 refine andE (by have z1:=impl_NumText_size hr0.Came;have z2:=impl_NumText_size hr0.Went;have z3:=impl_NumText_size hr0.Moving;have z4:=impl_NumText_size hr0.Held;have z5:=impl_NumText_size hr0.Dropped;have q:(ByteArray.mk #[32]).size=1:=rfl;(try simp only [ByteArray.size_append]);omega) ?_
 exact leafE hown hg
theorem c_impl_CountText (p0:Count):FnOk prog 15 [.agg (Count.cells p0)] ⟨.one (.v (.string (impl_CountText p0))),[],[],false⟩ :=
 FnOk.fits ⟨_,func15,by kernel_rfl,by kernel_rfl⟩ (fun hf=>cr_impl_CountText p0 (rg_Count hf.1))
def spec_CountText (p0:Count):ByteArray :=
 (((((((((spec_NumText p0.Came)++(ByteArray.mk #[32]))++(spec_NumText p0.Went))++(ByteArray.mk #[32]))++(spec_NumText p0.Moving))++(ByteArray.mk #[32]))++(spec_NumText p0.Held))++(ByteArray.mk #[32]))++(spec_NumText p0.Dropped))
theorem cr_spec_CountText (p0:Count) (hr0:Count.rg p0):FnOk prog 16 [.agg (Count.cells p0)] ⟨.one (.v (.string (spec_CountText p0))),[],[],false⟩:=by
 refine FnOk.intro (E:=env) envOk wide func16 rfl (by kernel_rfl) rfl rfl ?_
 have hg:=spec_CountText.eq_1 p0
 have hown:∀g:ByteArray,AV.Own (AV.one (.v (.string g))):=fun g=>.v _
 refine seqE ?_
 refine litE (m:=0) rfl ?_
 refine seqE ?_
 refine .inl ⟨by kernel_rfl,?_⟩
 refine ⟨_,_,c_spec_NumText p0.Came,(FzAs.same _),?_⟩
 refine andE (by have z1:=size_spec_NumText hr0.Came;have z2:=size_spec_NumText hr0.Went;have z3:=size_spec_NumText hr0.Moving;have z4:=size_spec_NumText hr0.Held;have z5:=size_spec_NumText hr0.Dropped;have q:(ByteArray.mk #[32]).size=1:=rfl;(try simp only [ByteArray.size_append]);omega) ?_
 refine ⟨_,_,c_spec_NumText p0.Went,(FzAs.same _),?_⟩
 refine andE (by have z1:=size_spec_NumText hr0.Came;have z2:=size_spec_NumText hr0.Went;have z3:=size_spec_NumText hr0.Moving;have z4:=size_spec_NumText hr0.Held;have z5:=size_spec_NumText hr0.Dropped;have q:(ByteArray.mk #[32]).size=1:=rfl;(try simp only [ByteArray.size_append]);omega) ?_
 refine andE (by have z1:=size_spec_NumText hr0.Came;have z2:=size_spec_NumText hr0.Went;have z3:=size_spec_NumText hr0.Moving;have z4:=size_spec_NumText hr0.Held;have z5:=size_spec_NumText hr0.Dropped;have q:(ByteArray.mk #[32]).size=1:=rfl;(try simp only [ByteArray.size_append]);omega) ?_
 refine ⟨_,_,c_spec_NumText p0.Moving,(FzAs.same _),?_⟩
 refine andE (by have z1:=size_spec_NumText hr0.Came;have z2:=size_spec_NumText hr0.Went;have z3:=size_spec_NumText hr0.Moving;have z4:=size_spec_NumText hr0.Held;have z5:=size_spec_NumText hr0.Dropped;have q:(ByteArray.mk #[32]).size=1:=rfl;(try simp only [ByteArray.size_append]);omega) ?_
 refine andE (by have z1:=size_spec_NumText hr0.Came;have z2:=size_spec_NumText hr0.Went;have z3:=size_spec_NumText hr0.Moving;have z4:=size_spec_NumText hr0.Held;have z5:=size_spec_NumText hr0.Dropped;have q:(ByteArray.mk #[32]).size=1:=rfl;(try simp only [ByteArray.size_append]);omega) ?_
 refine ⟨_,_,c_spec_NumText p0.Held,(FzAs.same _),?_⟩
 refine andE (by have z1:=size_spec_NumText hr0.Came;have z2:=size_spec_NumText hr0.Went;have z3:=size_spec_NumText hr0.Moving;have z4:=size_spec_NumText hr0.Held;have z5:=size_spec_NumText hr0.Dropped;have q:(ByteArray.mk #[32]).size=1:=rfl;(try simp only [ByteArray.size_append]);omega) ?_
 refine andE (by have z1:=size_spec_NumText hr0.Came;have z2:=size_spec_NumText hr0.Went;have z3:=size_spec_NumText hr0.Moving;have z4:=size_spec_NumText hr0.Held;have z5:=size_spec_NumText hr0.Dropped;have q:(ByteArray.mk #[32]).size=1:=rfl;(try simp only [ByteArray.size_append]);omega) ?_
 refine ⟨_,_,c_spec_NumText p0.Dropped,(FzAs.same _),?_⟩
 refine andE (by have z1:=size_spec_NumText hr0.Came;have z2:=size_spec_NumText hr0.Went;have z3:=size_spec_NumText hr0.Moving;have z4:=size_spec_NumText hr0.Held;have z5:=size_spec_NumText hr0.Dropped;have q:(ByteArray.mk #[32]).size=1:=rfl;(try simp only [ByteArray.size_append]);omega) ?_
 exact leafE hown hg
theorem main_DeedText {p0:Deed} (hr:Deed.rg p0):spec_DeedText p0=impl_DeedText p0:=by
 unfold impl_DeedText spec_DeedText impl_DeedText_j1
 rw [main_NumText hr.Trace,main_NumText hr.N,main_SpanText hr.S,main_CodeName]
 simp only [bne,Bool.not_not,impl_NumText]
 cases (p0.Op==1) <;> cases (p0.Op==2) <;> cases (p0.Op==3) <;> cases (p0.Op==4) <;> cases (p0.Lin==(-1)) <;> cases p0.Void <;> cases p0.Keep <;> simp [ByteArray.append_assoc,Step.get] <;> rfl
theorem main_TaskText {p0:Task} (hr:Task.rg p0):spec_TaskText p0=impl_TaskText p0:=by
 unfold impl_TaskText spec_TaskText
 rw [main_NumText hr.Pc]
 rfl
theorem main_ItemText {p0:Item} (hr:Item.rg p0):spec_ItemText p0=impl_ItemText p0:=by
 unfold impl_ItemText spec_ItemText
 rw [main_NumText hr.Stamp,main_SpanText hr.S]
 rfl
theorem main_CountText {p0:Count} (hr:Count.rg p0):spec_CountText p0=impl_CountText p0:=by
 unfold impl_CountText spec_CountText
 rw [main_NumText hr.Came,main_NumText hr.Went,main_NumText hr.Moving,main_NumText hr.Held,main_NumText hr.Dropped]
 rfl
theorem x_spec_DeedText (p0:Deed):FnOk prog 10 [.agg ((Deed.cells false) p0)] ⟨.one (.v (.string (impl_DeedText p0))),[],[],false⟩ :=
 FnOk.fits ⟨_,func10,by kernel_rfl,by kernel_rfl⟩ (fun hf=>by rw [←main_DeedText (rg_Deed hf.1)];exact cr_spec_DeedText p0 (rg_Deed hf.1))
theorem x_spec_TaskText (p0:Task):FnOk prog 12 [.agg ((Task.cells false) p0)] ⟨.one (.v (.string (impl_TaskText p0))),[],[],false⟩ :=
 FnOk.fits ⟨_,func12,by kernel_rfl,by kernel_rfl⟩ (fun hf=>by rw [←main_TaskText (rg_Task hf.1)];exact cr_spec_TaskText p0 (rg_Task hf.1))
theorem x_spec_ItemText (p0:Item):FnOk prog 14 [.agg ((Item.cells false) p0)] ⟨.one (.v (.string (impl_ItemText p0))),[],[],false⟩ :=
 FnOk.fits ⟨_,func14,by kernel_rfl,by kernel_rfl⟩ (fun hf=>by rw [←main_ItemText (rg_Item hf.1)];exact cr_spec_ItemText p0 (rg_Item hf.1))
theorem x_spec_CountText (p0:Count):FnOk prog 16 [.agg (Count.cells p0)] ⟨.one (.v (.string (impl_CountText p0))),[],[],false⟩ :=
 FnOk.fits ⟨_,func16,by kernel_rfl,by kernel_rfl⟩ (fun hf=>by rw [←main_CountText (rg_Count hf.1)];exact cr_spec_CountText p0 (rg_Count hf.1))
def laws_FnSaid (p0:(List Int)):Bool :=
 (bif (laws_big p0) then true else (bif (decide ((impl_DeedText (spec_DrawDeedText p0))=(impl_DeedText (spec_DrawDeedText p0)))) then (bif (decide ((impl_TaskText (spec_DrawTaskText p0))=(impl_TaskText (spec_DrawTaskText p0)))) then (bif (decide ((impl_ItemText (spec_DrawItemText p0))=(impl_ItemText (spec_DrawItemText p0)))) then (bif (decide ((impl_CountText (spec_DrawCountText p0))=(impl_CountText (spec_DrawCountText p0)))) then (bif (decide ((spec_DrawDeedText p0).Op≥1)) then (bif ((!decide ((impl_DeedText (spec_DrawDeedText p0))=(ByteArray.mk #[])))==(decide ((spec_DrawDeedText p0).Op≤4))) then (decide (((((impl_CountText (spec_DrawCountText p0))).size:Nat):Int)≥9)) else false) else (bif ((!decide ((impl_DeedText (spec_DrawDeedText p0))=(ByteArray.mk #[])))==false) then (decide (((((impl_CountText (spec_DrawCountText p0))).size:Nat):Int)≥9)) else false)) else false) else false) else false) else false))
theorem c_laws_FnSaid (p0:(List Int)):FnOk prog 3 [.one (.s false 1 (List.map cU8 p0))] ⟨.one (.v (.bool (laws_FnSaid p0))),[],[],false⟩:=by
 refine FnOk.intro (E:=env) envOk wide func3 rfl (by kernel_rfl) rfl rfl ?_
 have hg:=laws_FnSaid.eq_1 p0
 have hown:∀g:Bool,AV.Own (AV.one (.v (.bool g))):=fun g=>.v _
 exact seqE (seqE (seqE (.inl (⟨_,_,c_laws_big p0,(FzAs.same _),litE (m:=1) rfl (brE hg (fun hg h1=>seqE (leafE hown hg)) (fun hg h1=>seqE (.inl (⟨_,_,c_spec_DrawDeedText p0 (by exact big_at h1),(FzAs.same _),litE (m:=2) rfl (litE (m:=2) rfl (seqE (.inl (⟨_,_,c_spec_DrawTaskText p0 (by exact big_at h1),(FzAs.same _),litE (m:=4) rfl (litE (m:=4) rfl (seqE (.inl (⟨_,_,c_spec_DrawItemText p0 (by exact big_at h1),(FzAs.same _),litE (m:=6) rfl (litE (m:=6) rfl (seqE (.inl (⟨_,_,c_spec_DrawCountText p0 (by exact big_at h1),(FzAs.same _),litE (m:=8) rfl (litE (m:=8) rfl (seqE (.inl ⟨by kernel_rfl,⟨_,_,c_impl_DeedText (spec_DrawDeedText p0),(FzAs.same _),⟨_,_,x_spec_DeedText (spec_DrawDeedText p0),(FzAs.same _),brD hg (fun hg h2=>⟨_,_,c_impl_TaskText (spec_DrawTaskText p0),(FzAs.same _),⟨_,_,x_spec_TaskText (spec_DrawTaskText p0),(FzAs.same _),brD hg (fun hg h3=>⟨_,_,c_impl_ItemText (spec_DrawItemText p0),(FzAs.same _),⟨_,_,x_spec_ItemText (spec_DrawItemText p0),(FzAs.same _),brD hg (fun hg h4=>⟨_,_,c_impl_CountText (spec_DrawCountText p0),(FzAs.same _),⟨_,_,x_spec_CountText (spec_DrawCountText p0),(FzAs.same _),brD hg (fun hg h5=>⟨_,_,c_impl_DeedText (spec_DrawDeedText p0),(FzAs.same _),brD hg (fun hg h6=>brE hg (fun hg h7=>⟨_,_,c_impl_CountText (spec_DrawCountText p0),(FzAs.same _),lenS fun hN8=>leafE hown hg⟩) (fun hg h7=>leafE hown hg)) (fun hg h6=>brE hg (fun hg h9=>⟨_,_,c_impl_CountText (spec_DrawCountText p0),(FzAs.same _),lenS fun hN10=>leafE hown hg⟩) (fun hg h9=>leafE hown hg))⟩) (fun hg h5=>leafE hown hg)⟩⟩) (fun hg h4=>leafE hown hg)⟩⟩) (fun hg h3=>leafE hown hg)⟩⟩) (fun hg h2=>leafE hown hg)⟩⟩⟩)))⟩))))⟩))))⟩))))⟩))))⟩))))
theorem ne_app {a b:ByteArray} (h:0 < a.size):0 < (a++b).size:=by rw [ByteArray.size_append];omega
theorem itoaS_pos (n:Int):1≤(itoaS n).size:=by
 have e:(itoaS n).size=(Lib.itoa n).length:=by simp [itoaS,ByteArray.size]
 have h:∀u,1≤(Lib.decDigits u).length:=fun u=>by rw [Lib.decDigits_length,Lib.nDigits];split <;> omega
 rw [e]
 unfold Lib.itoa
 split
 · rw [List.length_cons];omega
 · exact h _
theorem dt_pos {d:Deed} (h:d.Op=1∨d.Op=2∨d.Op=3∨d.Op=4):0 < (impl_DeedText d).size:=by
 unfold impl_DeedText impl_DeedText_j1
 rcases h with h | h | h | h <;> rw [h]
 · cases (d.Lin != (-1)) <;> exact ne_app (ne_app (ne_app (by decide)))
 · cases (d.Lin != (-1)) with
   | false=>exact ne_app (ne_app (by decide))
   | true=>cases d.Void with
     | true=>exact ne_app (ne_app (by decide))
     | false=>cases d.Keep <;> exact ne_app (ne_app (ne_app (by decide)))
 · exact ne_app (ne_app (ne_app (by decide)))
 · exact (by decide:0 < (ByteArray.mk #[115,104,117,116]).size)
theorem dt_op (d:Deed):(!decide (impl_DeedText d=ByteArray.mk #[]))=(decide (d.Op≥1)&&decide (d.Op≤4)):=by
 by_cases h:d.Op=1∨d.Op=2∨d.Op=3∨d.Op=4
 · have hp:=dt_pos h
   have e:decide (impl_DeedText d=ByteArray.mk #[])=false:=decide_eq_false fun e=>by rw [e] at hp;exact absurd hp (by decide)
   rw [e,decide_eq_true (show d.Op≥1 by omega),decide_eq_true (show d.Op≤4 by omega)];rfl
 · have e:impl_DeedText d=ByteArray.mk #[]:=by
    unfold impl_DeedText
    have h1:(d.Op==1)=false:=by simp;omega
    have h2:(d.Op==2)=false:=by simp;omega
    have h3:(d.Op==3)=false:=by simp;omega
    have h4:(d.Op==4)=false:=by simp;omega
    rw [h1,h2,h3,h4];rfl
   rw [decide_eq_true e]
   by_cases h5:d.Op≥1
   · rw [decide_eq_false (show ¬d.Op≤4 by omega),Bool.and_false];rfl
   · rw [decide_eq_false h5];rfl
theorem ct_size (c:Count):9≤(impl_CountText c).size:=by
 unfold impl_CountText impl_NumText
 have q:(ByteArray.mk #[32]).size=1:=rfl
 have z1:=itoaS_pos c.Came
 have z2:=itoaS_pos c.Went
 have z3:=itoaS_pos c.Moving
 have z4:=itoaS_pos c.Held
 have z5:=itoaS_pos c.Dropped
 simp only [ByteArray.size_append]
 omega
theorem law_Said (p0:List Int):laws_FnSaid p0=true:=by
 unfold laws_FnSaid
 cases laws_big p0 with
 | true=>rfl
 | false =>
   have e2:decide (((impl_CountText (spec_DrawCountText p0)).size:Int)≥9)=true:=decide_eq_true (by have:=ct_size (spec_DrawCountText p0);omega)
   simp only [cond_false,eq_self,decide_true,cond_true,dt_op,e2]
   cases decide ((spec_DrawDeedText p0).Op≥1) <;> cases decide ((spec_DrawDeedText p0).Op≤4) <;> rfl
theorem rows_sl {α:Type} (f:α→List T) (W:α→Prop):∀rows:List (List T),(∀r∈rows,∃x,r=f x∧W x)→∃l:List α,rows=l.map f∧∀x∈l,W x
 | [],_=>⟨[],rfl,by simp⟩
 | r :: rows,h=>by
   obtain ⟨x,hx,hw⟩:=h r (by simp)
   obtain ⟨l,hl,hw'⟩:=rows_sl f W rows (fun r hr=>h r (by simp [hr]))
   exact ⟨x :: l,by simp [hx,hl],fun y hy=>by rcases List.mem_cons.1 hy with rfl | hy;exact hw;exact hw' y hy⟩
theorem shape_sl {α:Type} (f:α→List T) {P:Nat→α→Prop} (W:α→Prop) (hW:W=P 9223372036854775807) {n t e k:Nat} (ht:prog.underlying t=some (.slice e)) (hk:prog.cellsOf e=k) {y:List T} (h:Shape prog (n+1) t y) (hr:∀r,Shape prog n e r→∃x,r=f x∧W x) :
 ∃l:List α,y=[.s false k (l.map f)]∧bdS P 9223372036854775807 l:=by
 subst hW
 unfold Shape at h
 rw [ht] at h
 obtain ⟨rows,h1,h2,h3⟩:=h
 rw [hk] at h1
 obtain ⟨l,rfl,hw⟩:=rows_sl f _ rows (fun r hr'=>hr r (h3 r hr').2)
 exact ⟨l,h1,by simpa [maxLen] using h2,hw⟩
theorem shape5 (n:Nat) {l:List T} (h:Shape prog n 5 l):∃x:Int,l=[.v (.int .u8 x)]∧True:=by
 cases n with
 | zero=>exact (h:False).elim
 | succ n =>
   simp only [Shape,underlying5] at h
   obtain ⟨x,hx,_⟩:=h
   exact ⟨x,hx,trivial⟩
theorem shape22 (n:Nat) {l:List T} (h:Shape prog n 22 l):∃x:(List Int),l=[.s false 1 (List.map cU8 x)]∧bdS (fun _ _=>True) 9223372036854775807 x:=by
 cases n with
 | zero=>exact (h:False).elim
 | succ n =>
   exact shape_sl cU8 (P:=(fun _ _=>True)) _ rfl underlying22 (by kernel_rfl) h (fun r hr=>shape5 n hr)
theorem arg22 {n:Nat} {y:T} (h:Shape prog n 22 [y]):∃x:(List Int),y=.s false 1 (List.map cU8 x)∧bdS (fun _ _=>True) 9223372036854775807 x:=by
 obtain ⟨x,hx,hw⟩:=shape22 n h
 exact ⟨x,by simpa using hx,hw⟩
theorem law_c (p0:(List Int)) (h0:bdS (fun _ _=>True) 9223372036854775807 p0):FnOk prog 3 [.one (.s false 1 (List.map cU8 p0))] ⟨.one (.v (.bool true)),[],[],false⟩ :=
 FnOk.fits ⟨_,func3,by kernel_rfl,by kernel_rfl⟩ (fun hf=>by
  have h:=c_laws_FnSaid p0
  rw [law_Said p0] at h
  exact h)
end Go.Proofs.Tryz.Ev
