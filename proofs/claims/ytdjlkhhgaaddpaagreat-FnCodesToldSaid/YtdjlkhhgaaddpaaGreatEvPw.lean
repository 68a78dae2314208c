/- The whole of it: a piece of code. -/
import Derived.Test.YtdjlkhhgaaddpaaGreatEvPc
import Derived.Test.YtdjlkhhgaaddpaaGreatEvPx
import Derived.Test.YtdjlkhhgaaddpaaGreatEvPt
import Derived.Test.YtdjlkhhgaaddpaaGreatEvPz
import Derived.Test.YtdjlkhhgaaddpaaGreatEvPg
set_option linter.unusedSectionVars false
set_option linter.unusedVariables false
set_option linter.unusedSimpArgs false
namespace Go.Ev
open Go
open Classical
variable {E:Env} {w w' w0:World} {A0:Fix} {g g':Gh} {st st':St} {N:Nat} {pv:List Value} {a:Act}
def d8g (w0:World) (A0:Fix) (N:Nat) (pv:List Value) (Qa:Exit→St→Prop) (Q:Exit→Act→World→Prop):Prop :=
 ∀e st' a' w' g',Qa e st'→RepSt w' g' st' N pv a'→Fr w0 A0 w' g'→Q e a' w'
theorem b7v (hE:EnvOk E) (hm:E.P.follows .mixedOrders=true) (hG:GOk E.P w0 (A0.G w0)) {F:Nat→List AV→Out→Prop} (hFn:∀f as out,F f as out→FnOk E.P f as out) :
 ∀(c:Code) {Qa:Exit→St→Prop} {Q:Exit→Act→World→Prop} {st:St} {g:Gh} {a:Act} {w:World},tG N c=true→d8g w0 A0 N pv Qa Q→RepSt w g st N pv a→Fr w0 A0 w g→wpA E F c Qa st→c.wp E.P Q a w:=by
 intro c
 induction c with
 | skip=>intro Qa Q st g a w _ hL h hF hK;exact wp_skip (hL _ _ _ _ _ hK h hF)
 | exit i=>intro Qa Q st g a w _ hL h hF hK;exact wp_exit (hL _ _ _ _ _ hK h hF)
 | ret=>intro Qa Q st g a w _ hL h hF hK;exact wp_ret (hL _ _ _ _ _ hK h hF)
 | seq x y ihx ihy =>
   intro Qa Q st g a w hc hL h hF hK
   simp only [tG,Bool.and_eq_true] at hc
   rcases hK with hK | ⟨α,S,hS,hK⟩
   · refine wp_seq (ihx hc.1 ?_ h hF hK)
     intro e st' a' w' g' hq h' hF'
     cases e with
     | normal=>exact ihy hc.2 hL h' hF' hq
     | _=>exact hL _ _ _ _ _ hq h' hF'
   · refine wp_seq (ihx hc.1 ?_ h hF hK)
     intro e st' a' w' g' hq h' hF'
     cases e with
     | normal =>
       rcases hq with ⟨x,ρ,hcut⟩ | hq
       · obtain ⟨g2,hR2,hF2⟩:=c0g h' hF' hcut
         exact ihy hc.2 hL hR2 hF2 (hS x)
       · exact ihy hc.2 hL h' hF' hq
     | _=>exact hL _ _ _ _ _ hq h' hF'
 | cond o x y ihx ihy =>
   intro Qa Q st g a w hc hL h hF hK
   simp only [tG,Bool.and_eq_true] at hc
   simp only [wpA] at hK
   unfold d0x at hK
   split at hK
   · rename_i b hb
     have:=iQ h o
     rw [hb] at this
     cases b with
     | true=>exact wp_cond_split (t:=true) this (fun _=>ihx hc.1 hL h hF hK) (fun hb=>by cases hb)
     | false=>exact wp_cond_split (t:=false) this (fun hb=>by cases hb) (fun _=>ihy hc.2 hL h hF hK)
   · rename_i b hb
     have:=iQ h o
     rw [hb] at this
     exact wp_cond_split (t:=b) this.2 (fun hb=>ihx hc.1 hL h hF (hK.1 hb)) (fun hb=>ihy hc.2 hL h hF (hK.2 hb))
   · exact hK.elim
 | block id c ih =>
   intro Qa Q st g a w hc hL h hF hK
   refine wp_block (ih (Qa:=brk id Qa) hc ?_ h hF hK)
   intro e st' a' w' g' hq h' hF'
   cases e with
   | exit i =>
     simp only [brk] at hq
     simp only [Exit.inBlock]
     by_cases hi:i=id
     · subst hi
       simp only [beq_self_eq_true,cond_true] at hq
       rw [if_pos rfl]
       exact hL _ _ _ _ _ hq h' hF'
     · rw [if_neg hi]
       have:(i==id)=false:=by simpa using hi
       rw [this] at hq
       exact hL _ _ _ _ _ hq h' hF'
   | _=>exact hL _ _ _ _ _ hq h' hF'
 | loop c ih =>
   intro Qa Q st g a w hc hL h hF hK
   obtain ⟨α,S,μ,⟨x0,ρ0,h0⟩,hI⟩:=hK
   obtain ⟨g0,hR0,hF0⟩:=c0g h hF h0
   refine wp_loop_ghost (fun m a w=>∃x g,μ x=m∧RepSt w g (S x) N pv a∧Fr w0 A0 w g) (μ x0) ⟨x0,g0,rfl,hR0,hF0⟩ ?_
   rintro m a w ⟨x,g,rfl,h,hF⟩
   refine ih (Qa:=thn (tU S μ x) Qa) hc ?_ h hF (hI x)
   intro e st' a' w' g' hq h' hF'
   cases e with
   | normal =>
     obtain ⟨x',ρ,hlt,hcut⟩:=hq
     obtain ⟨g2,hR2,hF2⟩:=c0g h' hF' hcut
     exact ⟨μ x',hlt,x',g2,rfl,hR2,hF2⟩
   | _=>exact hL _ _ _ _ _ hq h' hF'
 | region id ops fl =>
   intro Qa Q st g a w hc hL h hF hK
   simp only [tG,Bool.and_eq_true,List.all_eq_true] at hc
   have hd:∀o∈ops.toList,mD N o.dst:=by
    intro o ho i hi
    have:=hc.1 o ho
    rw [hi] at this
    simpa [Nat.blt_eq] using this
   cases fl with
   | false =>
     simp only [wpA,cond_false] at hK
     exact wp_region_list (a9e hE hG hFn (fun st' a' w' g' hq h' hF'=>hL _ _ _ _ _ hq h' hF') ops.toList st g a w h hF hd hK)
   | true =>
     simp only [wpA,cond_true] at hK
     rcases hK with ⟨hB,hK⟩ | ⟨sl,hB,hK⟩ | ⟨t,hB,hK⟩
     · refine wp_region_quiet (C:=Cls w) hm hB ⟨rfl,rfl,rfl,Nat.le_refl _,fun _ _=>rfl⟩ ?_
       refine b5g hE hFn g w (hF.gok hG) (fun st' a' hq h' w' hw'=>?_) ops.toList st a h hd hK
       refine hL _ _ _ _ _ hq (h'.up hw'.2.2.2.2 hw'.2.2.2.1) ?_
       refine ⟨hw'.1.trans hF.os,hw'.2.1.trans hF.tape,hw'.2.2.1.trans hF.output,Nat.le_trans hF.size hw'.2.2.2.1,hF.x,fun b hb hA=>?_,fun b hb=>(a7o (hw'.2.2.2.2 b (Nat.lt_of_lt_of_le hb hF.size))).trans (hF.bs b hb)⟩
       obtain ⟨p1,p2⟩:=hF.blk b hb hA
       exact ⟨(hw'.2.2.2.2 b (Nat.lt_of_lt_of_le hb hF.size)).trans p1,p2⟩
     · unfold c2u at hB
       simp only [Bool.and_eq_true,Nat.beq_eq] at hB
       obtain ⟨b1,b2,b3⟩:=hB
       refine Go.wp_mono (Q:=fun e a w=>match e with | .panic _=>False | e=>Q e a w) (wp_region_any hm ?_) (fun e a w hq=>?_)
       · have inv0:HeadInv .any ops 0 (Array.replicate ops.size false) :=
          ⟨by simp,fun j oj _ hl=>(by rw [getD_replicate_false] at hl;cases hl),fun t _ ht=>getD_in (by simpa using ht) (getD_replicate_false _ _)⟩
         have key:=b3i (Q:=fun e a w=>match e with | .panic _=>False | e=>Q e a w) hE hG hFn b1 (fun c a w hq=>hq) (fun st' a' w' g' hq h' hF'=>hL _ _ _ _ _ hq h' hF') hd sl [] 0 (Array.replicate ops.size false) st g a { w with drawn:=w.drawn+1 } b3 ⟨inv0,fun _ h=>by cases h⟩ (h.up (fun _ _=>rfl) (Nat.le_refl _)) ⟨hF.os,hF.tape,hF.output,hF.size,hF.x,hF.blk,hF.bs⟩ hK
         rw [b2] at key
         exact key
       · cases e with
         | panic c=>exact hq.elim
         | _=>exact hq
     · unfold c2t at hB
       simp only [Bool.and_eq_true] at hB
       obtain ⟨b1,b2⟩:=hB
       refine Go.wp_mono (Q:=fun e a w=>match e with | .panic _=>False | e=>Q e a w) (wp_region_any hm ?_) (fun e a w hq=>?_)
       · exact d4g (Q:=fun e a w=>match e with | .panic _=>False | e=>Q e a w) hE hG hFn b1 (fun c a w hq=>hq) (fun st' a' w' g' hq h' hF'=>hL _ _ _ _ _ hq h' hF') hd ops.size t ops.size [] _ (Array.replicate ops.size false) [] st g a a { w with drawn:=w.drawn+1 } (by simp) b2 (fun k hk=>absurd hk List.not_mem_nil) (fun x hx=>absurd hx List.not_mem_nil) rfl rfl (h.up (fun _ _=>rfl) (Nat.le_refl _)) ⟨hF.os,hF.tape,hF.output,hF.size,hF.x,hF.blk,hF.bs⟩ hK
       · cases e with
         | panic c=>exact hq.elim
         | _=>exact hq
 | _=>intro Qa Q st g a w _ _ _ _ hK;exact hK.elim
end Go.Ev
