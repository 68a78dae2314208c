import Derived.Test.YtepchngnmfbffaaGreatLAgreesWalk
set_option linter.unusedSectionVars false

namespace Go.Proofs.Tryz.Ev
open Go Go.Ev Go.Proofs
set_option maxHeartbeats 4000000
set_option maxRecDepth 100000
set_option linter.unusedSimpArgs false
set_option linter.unusedVariables false
set_option linter.unusedSectionVars false
theorem c_slices_Equal_SVerdict_Verdict (p0 : (List Verdict)) (p1 : (List Verdict)) : FnOk prog 81 [.one (.s false 3 (List.map Verdict.cells p0)), .one (.s false 3 (List.map Verdict.cells p1))] ⟨.one (.v (.bool (slices_Equal_SVerdict_Verdict p0 p1))), [], [], false⟩ := by
  refine FnOk.intro (E := env) envOk wide func81 rfl (by kernel_rfl) rfl rfl ?_
  have hg := slices_Equal_SVerdict_Verdict.eq_1 p0 p1
  have hown : ∀ g : Bool, AV.Own (AV.one (.v (.bool g))) := fun g => .v _
  refine seqE ?_
  refine seqE ?_
  refine seqE ?_
  refine lenM fun hN1 => ?_
  refine lenM fun hN2 => ?_
  refine brW hg (fun hg h3 => ?_) (fun hg h3 => ?_)
  · refine seqE ?_
    exact leafE hown hg
  · refine seqE ?_
    refine seqE ?_
    refine lenM fun hN4 => ?_
    refine loopLE hg [0, 1, 12] (fun x1 => [(13, .one (.v (.int .i64 ((x1.i : Nat) : Int))))]) (fun x1 => []) [] ?_ (fun x1 => ?_)
    · exact ⟨rfl, ⟨rfl, rfl, rfl, rfl, trivial⟩, trivial, trivial⟩
    refine seqE ?_
    refine seqE ?_
    refine tstL (fun hi1 => ?_) (fun hi1 => ?_)
    · have hb1 := (x1.bdy hi1).trans (slices_Equal_SVerdict_Verdict_b1.eq_1 ..)
      have hw1 := wrap_succ hi1 (by first | assumption | omega)
      refine seqE ?_
      refine seqE ?_
      refine seqE ?_
      refine .inl ⟨by kernel_rfl, ?_⟩
      refine idxAt hi1 ?_
      refine idxOf (l := p1) (by (first | omega | (simp (disch := omega) only [wrap_small, mid_eq, List.length_map]; omega) | (simp; done) | (simp; omega) | (simp at *; omega) | (simp at *; done) | (simp_all; done) | (simp_all; omega))) (fun hq5 => ?_)
      refine brE hb1 (fun hb1 h6 => ?_) (fun hb1 h6 => x1.goE hi1 hb1 [] ⟨rfl, ⟨(eqInt hw1), rfl, rfl, rfl, trivial⟩, trivial, trivial⟩)
      refine seqE ?_
      have hg := donE hg (x1.outD hi1 hb1)
      exact leafE hown hg
    have hg := finE hg (x1.fin hi1)
    refine seqE ?_
    exact leafE hown hg
def impl_SameCache (p0 : (List Verdict)) (p1 : (List Verdict)) : Bool :=
  (slices_Equal_SVerdict_Verdict p0 p1)
theorem c_impl_SameCache (p0 : (List Verdict)) (p1 : (List Verdict)) : FnOk prog 39 [.one (.s false 3 (List.map Verdict.cells p0)), .one (.s false 3 (List.map Verdict.cells p1))] ⟨.one (.v (.bool (impl_SameCache p0 p1))), [], [], false⟩ := by
  refine FnOk.intro (E := env) envOk wide func39 rfl (by kernel_rfl) rfl rfl ?_
  have hg := impl_SameCache.eq_1 p0 p1
  have hown : ∀ g : Bool, AV.Own (AV.one (.v (.bool g))) := fun g => .v _
  refine seqE ?_
  refine seqE ?_
  refine .inl (⟨_, _, c_slices_Equal_SVerdict_Verdict p0 p1, (FzAs.same _), ?_⟩)
  refine litE (m := 1) rfl ?_
  exact leafE hown hg
def impl_copySpan (p0 : Span) : Span :=
  p0
theorem c_impl_copySpan (p0 : Span) (hs : Span.bd 1048576 p0) : FnOk prog 108 [.agg ((Span.cells false) p0)] ⟨.agg ((Span.cells true) (impl_copySpan p0)), [], [], false⟩ := by
  refine FnOk.intro (E := env) envOk wide func108 rfl (by kernel_rfl) rfl rfl ?_
  have hg := impl_copySpan.eq_1 p0
  have hown : ∀ g : Span, AV.Own (AV.agg ((Span.cells true) g)) := fun g => own_Span _
  refine seqE ?_
  refine litE (m := 0) rfl ?_
  refine litE (m := 1) rfl ?_
  refine seqE ?_
  refine .inl ?_
  refine rowsE (Y := List.map Attr.cells p0.Attrs) (by first | rfl | (simp [subR0, subR1, -List.map_take, -List.map_drop, take_map', drop_map', fz_Attr, fl_Attr, fzMap fz_Attr, flMap fl_Attr]; done) | (simp [subR0, subR1, -List.map_take, -List.map_drop, take_map', drop_map', fz_Attr, fl_Attr, fzMap fz_Attr, flMap fl_Attr]; rfl)) ?_
  refine appB (b := 48) (hs := by have hl := hs.1; refine ⟨?_, ?_⟩; (show List.length _ * 48 ≤ _); (try simp only [List.length_map, List.length_append, List.length_cons, List.length_nil]); omega; (try simp only [List.length_map, List.length_append, List.length_cons, List.length_nil]); omega) ?_
  refine litE (m := 2) rfl ?_
  refine seqE ?_
  exact leafE hown hg
def impl_copySpans_b1 (i1 : Nat) (s1 : (List Span)) (a1 : Span) : Step ((List Span)) (List Span) :=
  (.next (s1 ++ [(impl_copySpan a1)]))
def impl_copySpans (p0 : (List Span)) : (List Span) :=
  (Fin.get (fun s1 => s1) (loopL impl_copySpans_b1 0 ([] : List Span) p0))
theorem c_impl_copySpans (p0 : (List Span)) (hs : bdS Span.bd 1048576 p0) : FnOk prog 136 [.one (.s false 6 (List.map (Span.cells false) p0))] ⟨.one (.s true 6 (List.map (Span.cells true) (impl_copySpans p0))), [], [], false⟩ := by
  refine FnOk.intro (E := env) envOk wide func136 rfl (by kernel_rfl) rfl rfl ?_
  have hg := impl_copySpans.eq_1 p0
  have hown : ∀ g : (List Span), AV.Own (AV.one (.s true 6 (List.map (Span.cells true) g))) := fun g => ownSl own_Span _
  refine seqE ?_
  refine seqE ?_
  refine seqE ?_
  refine seqE ?_
  refine lenM fun hN1 => ?_
  refine loopLI (fun i s => s.length = i) hg (by rfl) [6, 7] (fun x1 => [(3, .one (.n 0 [] 1 0 (x1.s).length)), (8, .one (.v (.int .i64 ((x1.i : Nat) : Int))))]) (fun x1 => [.new ⟨6, false, List.map (Span.cells true) x1.s, 0⟩]) [none] ?_ (fun x1 => ?_)
  · exact ⟨rfl, ⟨⟨rfl, rfl, rfl, rfl, rfl⟩, rfl, rfl, rfl, trivial⟩, ⟨⟨rfl, rfl⟩, trivial⟩, trivial⟩
  have hI1 : List.length x1.s = x1.i := by simpa using x1.hI
  refine seqE ?_
  refine seqE ?_
  refine tstL (fun hi1 => ?_) (fun hi1 => ?_)
  · have hb1 := (x1.bdy hi1).trans (impl_copySpans_b1.eq_1 ..)
    have hw1 := wrap_succ hi1 (by first | assumption | omega)
    refine seqE ?_
    refine seqE ?_
    refine idxAt hi1 ?_
    refine litE (m := 1) rfl ?_
    refine .inl (⟨_, _, c_impl_copySpan (p0[x1.i]'hi1) (by exact hs.get hi1), (FzAs.same _), ?_⟩)
    refine litE (m := 3) rfl ?_
    refine litE (m := 4) rfl ?_
    refine .inl ?_
    refine rowsE (Y := List.map (Span.cells true) (x1.s ++ [(impl_copySpan (p0[x1.i]'hi1))])) (by first | rfl | (simp [subR0, subR1, -List.map_take, -List.map_drop, take_map', drop_map', fz_Span, fzMap fz_Span, shMap sh_Span]; done) | (simp [subR0, subR1, -List.map_take, -List.map_drop, take_map', drop_map', fz_Span, fzMap fz_Span, shMap sh_Span]; rfl)) ?_
    refine appB (b := 64) (hs := by have hl := hs.1; refine ⟨?_, ?_⟩; (show List.length _ * 64 ≤ _); (try simp only [List.length_map, List.length_append, List.length_cons, List.length_nil]); omega; (try simp only [List.length_map, List.length_append, List.length_cons, List.length_nil]); omega) ?_
    refine litE (m := 5) rfl ?_
    exact x1.goE hi1 hb1 (by show List.length (_ ++ _) = _; simp only [List.length_append, List.length_cons, List.length_nil]; omega) [some 5] ⟨rfl, ⟨⟨rfl, rfl, rfl, rfl, by (first | rfl | omega | (dsimp only; omega) | (simp; done) | (simp; omega) | (simp [LstSt.init, LstSt.step, LstInv.init, CntSt.init, CntSt.step, CntInv.init, WhlSt.init, WhlSt.step]; done) | (simp [LstSt.init, LstSt.step, LstInv.init, CntSt.init, CntSt.step, CntInv.init, WhlSt.init, WhlSt.step]; omega))⟩, (eqInt hw1), rfl, rfl, trivial⟩, ⟨⟨rfl, rfl, rfl⟩, trivial⟩, trivial⟩
  have hg := finE hg (x1.fin hi1)
  refine seqE ?_
  exact leafE hown hg
theorem copySpans_id (l : List Span) : impl_copySpans l = l := by
  unfold impl_copySpans
  rw [app_loop (f := fun a => [a]) (b := impl_copySpans_b1) (fun _ _ _ => rfl)]
  simp [Fin.get]
def impl_copyTrail (p0 : Trail) : Trail :=
  (Trail.mk p0.Id p0.Stamp p0.First (impl_copySpans p0.Spans))
theorem c_impl_copyTrail (p0 : Trail) (hs : Trail.bd 1048576 p0) : FnOk prog 128 [.agg ((Trail.cells false) p0)] ⟨.agg ((Trail.cells true) (impl_copyTrail p0)), [], [], false⟩ := by
  refine FnOk.intro (E := env) envOk wide func128 rfl (by kernel_rfl) rfl rfl ?_
  have hg := impl_copyTrail.eq_1 p0
  have hown : ∀ g : Trail, AV.Own (AV.agg ((Trail.cells true) g)) := fun g => own_Trail _
  refine seqE ?_
  refine litE (m := 0) rfl ?_
  refine litE (m := 1) rfl ?_
  refine seqE ?_
  refine .inl (⟨_, _, c_impl_copySpans p0.Spans (by exact hs), (FzAs.same _), ?_⟩)
  refine litE (m := 3) rfl ?_
  refine seqE ?_
  exact leafE hown hg
theorem copyTrail_id (t : Trail) : impl_copyTrail t = t := by
  unfold impl_copyTrail
  rw [copySpans_id]
def impl_copyTrails_b1 (i1 : Nat) (s1 : (List Trail)) (a1 : Trail) : Step ((List Trail)) (List Trail) :=
  (.next (s1 ++ [(impl_copyTrail a1)]))
def impl_copyTrails (p0 : (List Trail)) : (List Trail) :=
  (Fin.get (fun s1 => s1) (loopL impl_copyTrails_b1 0 ([] : List Trail) p0))
theorem c_impl_copyTrails (p0 : (List Trail)) (hs : bdS Trail.bd 1048576 p0) : FnOk prog 117 [.one (.s false 4 (List.map (Trail.cells false) p0))] ⟨.one (.s true 4 (List.map (Trail.cells true) (impl_copyTrails p0))), [], [], false⟩ := by
  refine FnOk.intro (E := env) envOk wide func117 rfl (by kernel_rfl) rfl rfl ?_
  have hg := impl_copyTrails.eq_1 p0
  have hown : ∀ g : (List Trail), AV.Own (AV.one (.s true 4 (List.map (Trail.cells true) g))) := fun g => ownSl own_Trail _
  refine seqE ?_
  refine seqE ?_
  refine seqE ?_
  refine seqE ?_
  refine lenM fun hN1 => ?_
  refine loopLI (fun i s => s.length = i) hg (by rfl) [6, 7] (fun x1 => [(3, .one (.n 0 [] 1 0 (x1.s).length)), (8, .one (.v (.int .i64 ((x1.i : Nat) : Int))))]) (fun x1 => [.new ⟨4, false, List.map (Trail.cells true) x1.s, 0⟩]) [none] ?_ (fun x1 => ?_)
  · exact ⟨rfl, ⟨⟨rfl, rfl, rfl, rfl, rfl⟩, rfl, rfl, rfl, trivial⟩, ⟨⟨rfl, rfl⟩, trivial⟩, trivial⟩
  have hI1 : List.length x1.s = x1.i := by simpa using x1.hI
  refine seqE ?_
  refine seqE ?_
  refine tstL (fun hi1 => ?_) (fun hi1 => ?_)
  · have hb1 := (x1.bdy hi1).trans (impl_copyTrails_b1.eq_1 ..)
    have hw1 := wrap_succ hi1 (by first | assumption | omega)
    refine seqE ?_
    refine seqE ?_
    refine idxAt hi1 ?_
    refine litE (m := 1) rfl ?_
    refine .inl (⟨_, _, c_impl_copyTrail (p0[x1.i]'hi1) (by exact hs.get hi1), (FzAs.same _), ?_⟩)
    refine litE (m := 3) rfl ?_
    refine litE (m := 4) rfl ?_
    refine .inl ?_
    refine rowsE (Y := List.map (Trail.cells true) (x1.s ++ [(impl_copyTrail (p0[x1.i]'hi1))])) (by first | rfl | (simp [subR0, subR1, -List.map_take, -List.map_drop, take_map', drop_map', fz_Trail, fzMap fz_Trail, shMap sh_Trail]; done) | (simp [subR0, subR1, -List.map_take, -List.map_drop, take_map', drop_map', fz_Trail, fzMap fz_Trail, shMap sh_Trail]; rfl)) ?_
    refine appB (b := 48) (hs := by have hl := hs.1; refine ⟨?_, ?_⟩; (show List.length _ * 48 ≤ _); (try simp only [List.length_map, List.length_append, List.length_cons, List.length_nil]); omega; (try simp only [List.length_map, List.length_append, List.length_cons, List.length_nil]); omega) ?_
    refine litE (m := 5) rfl ?_
    exact x1.goE hi1 hb1 (by show List.length (_ ++ _) = _; simp only [List.length_append, List.length_cons, List.length_nil]; omega) [some 5] ⟨rfl, ⟨⟨rfl, rfl, rfl, rfl, by (first | rfl | omega | (dsimp only; omega) | (simp; done) | (simp; omega) | (simp [LstSt.init, LstSt.step, LstInv.init, CntSt.init, CntSt.step, CntInv.init, WhlSt.init, WhlSt.step]; done) | (simp [LstSt.init, LstSt.step, LstInv.init, CntSt.init, CntSt.step, CntInv.init, WhlSt.init, WhlSt.step]; omega))⟩, (eqInt hw1), rfl, rfl, trivial⟩, ⟨⟨rfl, rfl, rfl⟩, trivial⟩, trivial⟩
  have hg := finE hg (x1.fin hi1)
  refine seqE ?_
  exact leafE hown hg
theorem copyTrails_id (l : List Trail) : impl_copyTrails l = l := by
  unfold impl_copyTrails
  rw [app_loop (f := fun a => [a]) (b := impl_copyTrails_b1) (fun _ s a => by unfold impl_copyTrails_b1; rw [copyTrail_id])]
  simp [Fin.get]
def impl_allTrails_b1 (i1 : Nat) (s1 : (List Trail)) (a1 : Stripe) : Step ((List Trail)) (List Trail) :=
  (.next (s1 ++ (impl_copyTrails a1.L)))
def impl_allTrails (p0 : (List Stripe)) : (List Trail) :=
  (Fin.get (fun s1 => s1) (loopL impl_allTrails_b1 0 ([] : List Trail) p0))
theorem c_impl_allTrails (p0 : (List Stripe)) (hs : bdS Stripe.bd 1048576 p0) : FnOk prog 82 [.one (.s false 2 (List.map (Stripe.cells false) p0))] ⟨.one (.s true 4 (List.map (Trail.cells true) (impl_allTrails p0))), [], [], false⟩ := by
  refine FnOk.intro (E := env) envOk wide func82 rfl (by kernel_rfl) rfl rfl ?_
  have hg := impl_allTrails.eq_1 p0
  have hown : ∀ g : (List Trail), AV.Own (AV.one (.s true 4 (List.map (Trail.cells true) g))) := fun g => ownSl own_Trail _
  refine seqE ?_
  refine seqE ?_
  refine seqE ?_
  refine seqE ?_
  refine lenM fun hN1 => ?_
  refine loopLI (fun i s => s.length ≤ 1048576 * i) hg (by show 0 ≤ _; omega) [6, 7] (fun x1 => [(3, .one (.n 0 [] 1 0 (x1.s).length)), (8, .one (.v (.int .i64 ((x1.i : Nat) : Int))))]) (fun x1 => [.new ⟨4, false, List.map (Trail.cells true) x1.s, 0⟩]) [none] ?_ (fun x1 => ?_)
  · exact ⟨rfl, ⟨⟨rfl, rfl, rfl, rfl, rfl⟩, rfl, rfl, rfl, trivial⟩, ⟨⟨rfl, rfl⟩, trivial⟩, trivial⟩
  have hI1 : List.length x1.s ≤ 1048576 * x1.i := by simpa using x1.hI
  refine seqE ?_
  refine seqE ?_
  refine tstL (fun hi1 => ?_) (fun hi1 => ?_)
  · have hb1 := (x1.bdy hi1).trans (impl_allTrails_b1.eq_1 ..)
    have hw1 := wrap_succ hi1 (by first | assumption | omega)
    refine seqE ?_
    refine seqE ?_
    refine idxAt hi1 ?_
    refine litE (m := 1) rfl ?_
    refine .inl (⟨_, _, c_impl_copyTrails (p0[x1.i]'hi1).L (by exact hs.get hi1), (FzAs.same _), ?_⟩)
    refine litE (m := 3) rfl ?_
    refine .inl ?_
    refine rowsE (Y := List.map (Trail.cells true) (x1.s ++ (impl_copyTrails (p0[x1.i]'hi1).L))) (by first | rfl | (simp [subR0, subR1, -List.map_take, -List.map_drop, take_map', drop_map', fz_Trail, fzMap fz_Trail, shMap sh_Trail]; done) | (simp [subR0, subR1, -List.map_take, -List.map_drop, take_map', drop_map', fz_Trail, fzMap fz_Trail, shMap sh_Trail]; rfl)) ?_
    refine appB (b := 48) (hs := by have hl := hs.1; have hq : bdS Trail.bd 1048576 (p0[x1.i]'hi1).L := hs.get hi1; have hq1 := hq.1; have hq2 := copyTrails_id (p0[x1.i]'hi1).L; (try rw [hq2]); refine ⟨?_, ?_⟩; (show List.length _ * 48 ≤ _); (try simp only [List.length_map, List.length_append, List.length_cons, List.length_nil]); omega; (try simp only [List.length_map, List.length_append, List.length_cons, List.length_nil]); omega) ?_
    refine litE (m := 4) rfl ?_
    exact x1.goE hi1 hb1 (by have hq : bdS Trail.bd 1048576 (p0[x1.i]'hi1).L := hs.get hi1; show List.length (_ ++ _) ≤ _; rw [List.length_append, copyTrails_id]; have := hq.1; omega) [some 4] ⟨rfl, ⟨⟨rfl, rfl, rfl, rfl, by (first | rfl | omega | (dsimp only; omega) | (simp; done) | (simp; omega) | (simp [LstSt.init, LstSt.step, LstInv.init, CntSt.init, CntSt.step, CntInv.init, WhlSt.init, WhlSt.step]; done) | (simp [LstSt.init, LstSt.step, LstInv.init, CntSt.init, CntSt.step, CntInv.init, WhlSt.init, WhlSt.step]; omega))⟩, (eqInt hw1), rfl, rfl, trivial⟩, ⟨⟨rfl, rfl, rfl⟩, trivial⟩, trivial⟩
  have hg := finE hg (x1.fin hi1)
  refine seqE ?_
  exact leafE hown hg
theorem allTrails_eq (l : List Stripe) : impl_allTrails l = l.flatMap (fun x => x.L) := by
  unfold impl_allTrails
  rw [app_loop (f := fun x : Stripe => x.L) (b := impl_allTrails_b1) (fun _ s a => by unfold impl_allTrails_b1; rw [copyTrails_id])]
  simp [Fin.get]
theorem flat_len {α β : Type} (g : α → List β) (N : Nat) : ∀ l : List α, (∀ a ∈ l, (g a).length ≤ N) → (l.flatMap g).length ≤ N * l.length
  | [], _ => Nat.zero_le _
  | a :: l, h => by
    have h1 := h a (by simp)
    have h2 := flat_len g N l (fun x hx => h x (by simp [hx]))
    simp only [List.flatMap_cons, List.length_append, List.length_cons, Nat.mul_succ]; omega
theorem allTrails_len (p0 : List Stripe) (hs : bdS Stripe.bd 1048576 p0) : (impl_allTrails p0).length ≤ 1099511627776 := by
  rw [allTrails_eq]
  have h1 := hs.1
  have := flat_len (fun x : Stripe => x.L) 1048576 p0 (fun a ha => (hs.2 a ha).1)
  omega
def cmp_isNaN_int (p0 : Int) : Bool :=
  (p0 != p0)
theorem c_cmp_isNaN_int (p0 : Int) : FnOk prog 119 [.one (.v (.int .i64 p0))] ⟨.one (.v (.bool (cmp_isNaN_int p0))), [], [], false⟩ := by
  refine FnOk.intro (E := env) envOk wide func119 rfl (by kernel_rfl) rfl rfl ?_
  have hg := cmp_isNaN_int.eq_1 p0
  have hown : ∀ g : Bool, AV.Own (AV.one (.v (.bool g))) := fun g => .v _
  refine seqE ?_
  refine seqE ?_
  exact leafE hown hg
def cmp_Compare_int (p0 : Int) (p1 : Int) : Int :=
  (bif (cmp_isNaN_int p0) then (bif (cmp_isNaN_int p1) then 0 else (-1)) else (bif (cmp_isNaN_int p1) then 1 else (bif (decide (p0 < p1)) then (-1) else (bif (decide (p0 > p1)) then 1 else 0))))
theorem c_cmp_Compare_int (p0 : Int) (p1 : Int) : FnOk prog 85 [.one (.v (.int .i64 p0)), .one (.v (.int .i64 p1))] ⟨.one (.v (.int .i64 (cmp_Compare_int p0 p1))), [], [], false⟩ := by
  refine FnOk.intro (E := env) envOk wide func85 rfl (by kernel_rfl) rfl rfl ?_
  have hg := cmp_Compare_int.eq_1 p0 p1
  have hown : ∀ g : Int, AV.Own (AV.one (.v (.int .i64 g))) := fun g => .v _
  refine seqE ?_
  refine seqE ?_
  refine .inl (⟨_, _, c_cmp_isNaN_int p0, (FzAs.same _), ?_⟩)
  refine litE (m := 1) rfl ?_
  refine seqE ?_
  refine .inl (⟨_, _, c_cmp_isNaN_int p1, (FzAs.same _), ?_⟩)
  refine litE (m := 2) rfl ?_
  refine seqE ?_
  refine seqE ?_
  refine brE hg (fun hg h1 => ?_) (fun hg h1 => ?_)
  · refine seqE ?_
    refine seqE ?_
    refine brE hg (fun hg h2 => ?_) (fun hg h2 => ?_)
    · refine seqE ?_
      exact leafE hown hg
    · refine seqE ?_
      exact leafE hown hg
  · refine seqE ?_
    refine seqE ?_
    refine brE hg (fun hg h3 => ?_) (fun hg h3 => ?_)
    · refine seqE ?_
      exact leafE hown hg
    · refine seqE ?_
      refine seqE ?_
      refine brD hg (fun hg h4 => ?_) (fun hg h4 => ?_)
      · refine seqE ?_
        exact leafE hown hg
      · refine seqE ?_
        refine seqE ?_
        refine brD hg (fun hg h5 => ?_) (fun hg h5 => ?_)
        · refine seqE ?_
          exact leafE hown hg
        · refine seqE ?_
          exact leafE hown hg
def impl_OpenTrails_1 (p0 : Trail) (p1 : Trail) : Int :=
  (cmp_Compare_int p0.Id p1.Id)
theorem c_impl_OpenTrails_1 (p0 : Trail) (p1 : Trail) : FnOk prog 84 [.agg ((Trail.cells false) p0), .agg ((Trail.cells false) p1)] ⟨.one (.v (.int .i64 (impl_OpenTrails_1 p0 p1))), [], [], false⟩ := by
  refine FnOk.intro (E := env) envOk wide func84 rfl (by kernel_rfl) rfl rfl ?_
  have hg := impl_OpenTrails_1.eq_1 p0 p1
  have hown : ∀ g : Int, AV.Own (AV.one (.v (.int .i64 g))) := fun g => .v _
  refine seqE ?_
  refine litE (m := 0) rfl ?_
  refine litE (m := 1) rfl ?_
  refine seqE ?_
  refine .inl (⟨_, _, c_cmp_Compare_int p0.Id p1.Id, (FzAs.same _), ?_⟩)
  refine litE (m := 3) rfl ?_
  exact leafE hown hg
def slices_insertionSortCmpFunc_Trail_c_impl_OpenTrails_1_z_b2 (p1 : Int) (s2 : (List Trail) × Int) : Step ((List Trail) × Int) (Step ((List Trail)) (List Trail)) :=
  (bif (decide (s2.2 > p1)) then (bif (decide ((impl_OpenTrails_1 (s2.1[(s2.2).toNat]?.getD default) (s2.1[((IntKind.i64.wrap (s2.2 - 1))).toNat]?.getD default)) < 0)) then (.next ((List.set (List.set s2.1 (s2.2).toNat (s2.1[((IntKind.i64.wrap (s2.2 - 1))).toNat]?.getD default)) ((IntKind.i64.wrap (s2.2 - 1))).toNat (s2.1[(s2.2).toNat]?.getD default)), (IntKind.i64.wrap (s2.2 - 1)))) else (.stop (s2.1, s2.2))) else (.stop (s2.1, s2.2)))
def slices_insertionSortCmpFunc_Trail_c_impl_OpenTrails_1_z_b1 (p1 : Int) (i1 : Nat) (s1 : (List Trail)) : Step ((List Trail)) (List Trail) :=
  (Fin.get (fun s2 => (.next s2.1)) (loopW (slices_insertionSortCmpFunc_Trail_c_impl_OpenTrails_1_z_b2 p1) ((fun s : (List Trail) × Int => (s.2 - p1).toNat) (s1, ((IntKind.i64.wrap (p1 + 1)) + ((i1 : Nat) : Int)))) (s1, ((IntKind.i64.wrap (p1 + 1)) + ((i1 : Nat) : Int)))))
def slices_insertionSortCmpFunc_Trail_c_impl_OpenTrails_1_z (p0 : (List Trail)) (p1 : Int) (p2 : Int) : (List Trail) :=
  (Fin.get (fun s1 => s1) (loopC (slices_insertionSortCmpFunc_Trail_c_impl_OpenTrails_1_z_b1 p1) 0 p0 ((p2 - (IntKind.i64.wrap (p1 + 1)))).toNat))
theorem e_slices_insertionSortCmpFunc_Trail_c_impl_OpenTrails_1_z (p0 : List Trail) (p1 p2 : Int) : slices_insertionSortCmpFunc_Trail_c_impl_OpenTrails_1_z p0 p1 p2 = g_insertionSort p0 p1 p2 impl_OpenTrails_1 := rfl
theorem len_slices_insertionSortCmpFunc_Trail_c_impl_OpenTrails_1_z (p0 : List Trail) (p1 p2 : Int) : (slices_insertionSortCmpFunc_Trail_c_impl_OpenTrails_1_z p0 p1 p2).length = p0.length := by rw [e_slices_insertionSortCmpFunc_Trail_c_impl_OpenTrails_1_z]; exact len_g_ins ..
theorem c_slices_insertionSortCmpFunc_Trail_c_impl_OpenTrails_1_z (p0 : (List Trail)) (p1 : Int) (p2 : Int) (hs : (Srt (fun _ => True) p0 ∧ p0.length ≤ 288230376151711744) ∧ 0 ≤ p1 ∧ p1 ≤ p2 ∧ p2 ≤ ((p0.length : Nat) : Int)) : FnOk prog 129 [.tup [.one (.s true 4 (List.map (Trail.cells false) p0))], .one (.v (.int .i64 p1)), .one (.v (.int .i64 p2)), .one (.c 84 [])] ⟨.tup [], [.one (.s true 4 (List.map (Trail.cells false) ((slices_insertionSortCmpFunc_Trail_c_impl_OpenTrails_1_z p0 p1 p2))))], [], false⟩ := by
  refine FnOk.introM (E := env) envOk wide func129 rfl (by kernel_rfl) rfl ?_
  have hg := slices_insertionSortCmpFunc_Trail_c_impl_OpenTrails_1_z.eq_1 p0 p1 p2
  have hown : (∀ g : (List Trail), AV.Own (AV.tup [])) ∧ (fun g : (List Trail) => T.s true 4 (List.map (Trail.cells false) (g))) = _ := ⟨fun g => trivial, rfl⟩
  refine seqE ?_
  refine loopCI (fun _ s => (Srt (fun _ => True) s ∧ s.length = p0.length)) hg (⟨hs.1.1, rfl⟩) [1, 2, 3] (fun x1 => [(0, .one (.n 1 [] 1 0 (x1.s).length)), (8, .one (.v (.int .i64 ((IntKind.i64.wrap (p1 + 1)) + ((x1.i : Nat) : Int)))))]) (fun x1 => [.dead, .new ⟨4, false, List.map (Trail.cells false) x1.s, 0⟩]) [none, some 1] ?_ (fun x1 => ?_)
  · exact ⟨rfl, ⟨⟨rfl, rfl, rfl, rfl, by (first | rfl | omega | (dsimp only; omega) | (simp; done) | (simp; omega) | (simp [LstSt.init, LstSt.step, LstInv.init, CntSt.init, CntSt.step, CntInv.init, WhlSt.init, WhlSt.step]; done) | (simp [LstSt.init, LstSt.step, LstInv.init, CntSt.init, CntSt.step, CntInv.init, WhlSt.init, WhlSt.step]; omega))⟩, (eqInt (Int.add_zero _).symm), rfl, rfl, ⟨rfl, trivial⟩, trivial⟩, ⟨⟨rfl, rfl, rfl⟩, trivial⟩, ⟨⟨rfl, rfl, rfl, rfl, by (first | rfl | omega | (dsimp only; omega) | (simp; done) | (simp; omega) | (simp [LstSt.init, LstSt.step, LstInv.init, CntSt.init, CntSt.step, CntInv.init, WhlSt.init, WhlSt.step]; done) | (simp [LstSt.init, LstSt.step, LstInv.init, CntSt.init, CntSt.step, CntInv.init, WhlSt.init, WhlSt.step]; omega))⟩, trivial⟩⟩
  have hI1 := x1.hI
  try dsimp only at hI1
  refine seqE ?_
  refine seqE ?_
  refine tstB (fun hi1 => ?_) (fun hi1 => ?_)
  · have hb1 := (x1.bdy hi1).trans (slices_insertionSortCmpFunc_Trail_c_impl_OpenTrails_1_z_b1.eq_1 ..)
    have hw1 := wrapB hi1
    refine seqE ?_
    refine seqE ?_
    refine loopWE (m := (fun s : (List Trail) × Int => (s.2 - p1).toNat)) (s0 := (x1.s, ((IntKind.i64.wrap (p1 + 1)) + ((x1.i : Nat) : Int)))) (fun s : (List Trail) × Int => (Srt (fun _ => True) s.1 ∧ s.1.length = p0.length) ∧ p1 ≤ s.2 ∧ s.2 < p2) hb1 (by exact ⟨hI1, by (first | omega | (dsimp only <;> omega) | (simp (disch := omega) only [wrap_small, mid_eq, mid_eq1, mid_eq2, mid_eq3, List.length_map, List.length_set] <;> omega) | (simp (disch := omega) only [wrap_small, mid_eq, mid_eq1, mid_eq2, mid_eq3, List.length_map, List.length_set] at * <;> omega)), by (first | omega | (dsimp only <;> omega) | (simp (disch := omega) only [wrap_small, mid_eq, mid_eq1, mid_eq2, mid_eq3, List.length_map, List.length_set] <;> omega) | (simp (disch := omega) only [wrap_small, mid_eq, mid_eq1, mid_eq2, mid_eq3, List.length_map, List.length_set] at * <;> omega))⟩) [1, 2, 3, 8] (fun x2 => [(0, .one (.n 1 [] 1 0 (p0).length)), (9, .one (.v (.int .i64 x2.s.2)))]) (fun x2 => [.dead, .new ⟨4, false, List.map (Trail.cells false) x2.s.1, 0⟩]) [none, some 1] ?_ (fun x2 => ?_)
    · exact ⟨rfl, ⟨⟨rfl, rfl, rfl, rfl, by (first | rfl | omega | (dsimp only; omega) | (simp; done) | (simp; omega) | (simp [LstSt.init, LstSt.step, LstInv.init, CntSt.init, CntSt.step, CntInv.init, WhlSt.init, WhlSt.step]; done) | (simp [LstSt.init, LstSt.step, LstInv.init, CntSt.init, CntSt.step, CntInv.init, WhlSt.init, WhlSt.step]; omega))⟩, rfl, rfl, rfl, ⟨rfl, trivial⟩, rfl, trivial⟩, ⟨⟨rfl, rfl, rfl⟩, trivial⟩, ⟨⟨rfl, rfl, rfl, rfl, by (first | rfl | omega | (dsimp only; omega) | (simp; done) | (simp; omega) | (simp [LstSt.init, LstSt.step, LstInv.init, CntSt.init, CntSt.step, CntInv.init, WhlSt.init, WhlSt.step]; done) | (simp [LstSt.init, LstSt.step, LstInv.init, CntSt.init, CntSt.step, CntInv.init, WhlSt.init, WhlSt.step]; omega))⟩, trivial⟩⟩
    have hI2 := x2.hI
    try dsimp only at hI2
    have hb2 := x2.bdy.trans (slices_insertionSortCmpFunc_Trail_c_impl_OpenTrails_1_z_b2.eq_1 ..)
    refine seqE ?_
    refine seqE ?_
    refine .inl ⟨by kernel_rfl, ?_⟩
    refine brD hb2 (fun hb2 h1 => ?_) (fun hb2 h1 => ?_)
    · refine andE (by (first | omega | (dsimp only <;> omega) | (simp (disch := omega) only [wrap_small, mid_eq, mid_eq1, mid_eq2, mid_eq3, List.length_map, List.length_set] <;> omega) | (simp (disch := omega) only [wrap_small, mid_eq, mid_eq1, mid_eq2, mid_eq3, List.length_map, List.length_set] at * <;> omega))) ?_
      refine rowGet (i := (x2.s.2).toNat) (l := x2.s.1) (by first | rfl | exact Nat.zero_add _ | simp) (fun hq2 => ?_)
      refine andE (by (first | omega | (dsimp only <;> omega) | (simp (disch := omega) only [wrap_small, mid_eq, mid_eq1, mid_eq2, mid_eq3, List.length_map, List.length_set] <;> omega) | (simp (disch := omega) only [wrap_small, mid_eq, mid_eq1, mid_eq2, mid_eq3, List.length_map, List.length_set] at * <;> omega))) ?_
      refine rowGet (i := ((IntKind.i64.wrap (x2.s.2 - 1))).toNat) (l := x2.s.1) (by first | rfl | exact Nat.zero_add _ | simp) (fun hq3 => ?_)
      refine ⟨_, _, c_impl_OpenTrails_1 (x2.s.1[(x2.s.2).toNat]?.getD default) (x2.s.1[((IntKind.i64.wrap (x2.s.2 - 1))).toNat]?.getD default), (FzAs.same _), ?_⟩
      refine brD hb2 (fun hb2 h4 => ?_) (fun hb2 h4 => ?_)
      · refine seqE ?_
        refine .inr (.inr (.inr ⟨(.q 0 (.q 1 (.q 2 (.q 3 (.q 4 (.q 5 (.q 6 (.q 7 (.q 8 (.q 10 (.q 11 (.q 12 (.b 9 (.o 13 (.o 14 (.o 15 (.o 16 (.o 17 .leaf))))) 13 (.o 9 (.o 14 (.o 15 (.o 16 (.o 17 .leaf)))))))))))))))))), by kernel_rfl, ?_⟩))
        refine andE (by (first | omega | (dsimp only <;> omega) | (simp (disch := omega) only [wrap_small, mid_eq, mid_eq1, mid_eq2, mid_eq3, List.length_map, List.length_set] <;> omega) | (simp (disch := omega) only [wrap_small, mid_eq, mid_eq1, mid_eq2, mid_eq3, List.length_map, List.length_set] at * <;> omega))) ?_
        refine andE (by (first | omega | (dsimp only <;> omega) | (simp (disch := omega) only [wrap_small, mid_eq, mid_eq1, mid_eq2, mid_eq3, List.length_map, List.length_set] <;> omega) | (simp (disch := omega) only [wrap_small, mid_eq, mid_eq1, mid_eq2, mid_eq3, List.length_map, List.length_set] at * <;> omega))) ?_
        refine And.intro ?_ ?_
        · refine rowGet (i := ((IntKind.i64.wrap (x2.s.2 - 1))).toNat) (l := x2.s.1) (by first | rfl | exact Nat.zero_add _ | simp) (fun hq5 => ?_)
          refine rowGet (i := (x2.s.2).toNat) (l := x2.s.1) (by first | rfl | exact Nat.zero_add _ | simp) (fun hq6 => ?_)
          refine andE (by (first | omega | (dsimp only <;> omega) | (simp (disch := omega) only [wrap_small, mid_eq, mid_eq1, mid_eq2, mid_eq3, List.length_map, List.length_set] <;> omega) | (simp (disch := omega) only [wrap_small, mid_eq, mid_eq1, mid_eq2, mid_eq3, List.length_map, List.length_set] at * <;> omega))) ?_
          refine rowsE (Y := List.map (Trail.cells false) (List.set x2.s.1 (x2.s.2).toNat (x2.s.1[((IntKind.i64.wrap (x2.s.2 - 1))).toNat]?.getD default))) (by exact setMapE (by simp) (fun a ha => by first | rfl | (simp only [ha, Option.getD_some]; rfl) | (obtain ⟨_, rfl⟩ := List.getElem?_eq_some_iff.1 ha; rfl) | (simp only [Pol.cells_eq]; rfl) | (simp only [ha, Option.getD_some, Pol.cells_eq]; rfl))) ?_
          refine andE (by (first | omega | (dsimp only <;> omega) | (simp (disch := omega) only [wrap_small, mid_eq, mid_eq1, mid_eq2, mid_eq3, List.length_map, List.length_set] <;> omega) | (simp (disch := omega) only [wrap_small, mid_eq, mid_eq1, mid_eq2, mid_eq3, List.length_map, List.length_set] at * <;> omega))) ?_
          refine rowsE (Y := List.map (Trail.cells false) (List.set (List.set x2.s.1 (x2.s.2).toNat (x2.s.1[((IntKind.i64.wrap (x2.s.2 - 1))).toNat]?.getD default)) ((IntKind.i64.wrap (x2.s.2 - 1))).toNat (x2.s.1[(x2.s.2).toNat]?.getD default))) (by exact setMapE (by simp) (fun a ha => by first | rfl | (simp only [ha, Option.getD_some]; rfl) | (obtain ⟨_, rfl⟩ := List.getElem?_eq_some_iff.1 ha; rfl) | (simp only [Pol.cells_eq]; rfl) | (simp only [ha, Option.getD_some, Pol.cells_eq]; rfl))) ?_
          exact x2.goE hb2 (show (fun s : (List Trail) × Int => (Srt (fun _ => True) s.1 ∧ s.1.length = p0.length) ∧ p1 ≤ s.2 ∧ s.2 < p2) ((List.set (List.set x2.s.1 (x2.s.2).toNat (x2.s.1[((IntKind.i64.wrap (x2.s.2 - 1))).toNat]?.getD default)) ((IntKind.i64.wrap (x2.s.2 - 1))).toNat (x2.s.1[(x2.s.2).toNat]?.getD default)), (IntKind.i64.wrap (x2.s.2 - 1))) ∧ (fun s : (List Trail) × Int => (s.2 - p1).toNat) ((List.set (List.set x2.s.1 (x2.s.2).toNat (x2.s.1[((IntKind.i64.wrap (x2.s.2 - 1))).toNat]?.getD default)) ((IntKind.i64.wrap (x2.s.2 - 1))).toNat (x2.s.1[(x2.s.2).toNat]?.getD default)), (IntKind.i64.wrap (x2.s.2 - 1))) < (fun s : (List Trail) × Int => (s.2 - p1).toNat) x2.s by exact ⟨⟨Sz.swp (N := p0.length) hI2.1 (by (first | omega | (dsimp only <;> omega) | (simp (disch := omega) only [wrap_small, mid_eq, mid_eq1, mid_eq2, mid_eq3, List.length_map, List.length_set] <;> omega) | (simp (disch := omega) only [wrap_small, mid_eq, mid_eq1, mid_eq2, mid_eq3, List.length_map, List.length_set] at * <;> omega))) (by (first | omega | (dsimp only <;> omega) | (simp (disch := omega) only [wrap_small, mid_eq, mid_eq1, mid_eq2, mid_eq3, List.length_map, List.length_set] <;> omega) | (simp (disch := omega) only [wrap_small, mid_eq, mid_eq1, mid_eq2, mid_eq3, List.length_map, List.length_set] at * <;> omega))), by (first | omega | (dsimp only <;> omega) | (simp (disch := omega) only [wrap_small, mid_eq, mid_eq1, mid_eq2, mid_eq3, List.length_map, List.length_set] <;> omega) | (simp (disch := omega) only [wrap_small, mid_eq, mid_eq1, mid_eq2, mid_eq3, List.length_map, List.length_set] at * <;> omega)), by (first | omega | (dsimp only <;> omega) | (simp (disch := omega) only [wrap_small, mid_eq, mid_eq1, mid_eq2, mid_eq3, List.length_map, List.length_set] <;> omega) | (simp (disch := omega) only [wrap_small, mid_eq, mid_eq1, mid_eq2, mid_eq3, List.length_map, List.length_set] at * <;> omega))⟩, by (first | omega | (dsimp only <;> omega) | (simp (disch := omega) only [wrap_small, mid_eq, mid_eq1, mid_eq2, mid_eq3, List.length_map, List.length_set] <;> omega) | (simp (disch := omega) only [wrap_small, mid_eq, mid_eq1, mid_eq2, mid_eq3, List.length_map, List.length_set] at * <;> omega))⟩) [none, some 1] ⟨rfl, ⟨⟨rfl, rfl, rfl, rfl, by (first | rfl | omega | (dsimp only; omega) | (simp; done) | (simp; omega) | (simp [LstSt.init, LstSt.step, LstInv.init, CntSt.init, CntSt.step, CntInv.init, WhlSt.init, WhlSt.step]; done) | (simp [LstSt.init, LstSt.step, LstInv.init, CntSt.init, CntSt.step, CntInv.init, WhlSt.init, WhlSt.step]; omega))⟩, rfl, rfl, rfl, ⟨rfl, trivial⟩, rfl, trivial⟩, ⟨⟨rfl, rfl, rfl⟩, trivial⟩, ⟨⟨rfl, rfl, rfl, rfl, by (first | rfl | omega | (dsimp only; omega) | (simp; done) | (simp; omega) | (simp [LstSt.init, LstSt.step, LstInv.init, CntSt.init, CntSt.step, CntInv.init, WhlSt.init, WhlSt.step]; done) | (simp [LstSt.init, LstSt.step, LstInv.init, CntSt.init, CntSt.step, CntInv.init, WhlSt.init, WhlSt.step]; omega))⟩, trivial⟩⟩
        refine rowGet (i := (x2.s.2).toNat) (l := x2.s.1) (by first | rfl | exact Nat.zero_add _ | simp) (fun hq7 => ?_)
        refine rowGet (i := ((IntKind.i64.wrap (x2.s.2 - 1))).toNat) (l := x2.s.1) (by first | rfl | exact Nat.zero_add _ | simp) (fun hq8 => ?_)
        refine andE (by (first | omega | (dsimp only <;> omega) | (simp (disch := omega) only [wrap_small, mid_eq, mid_eq1, mid_eq2, mid_eq3, List.length_map, List.length_set] <;> omega) | (simp (disch := omega) only [wrap_small, mid_eq, mid_eq1, mid_eq2, mid_eq3, List.length_map, List.length_set] at * <;> omega))) ?_
        refine rowsE (Y := List.map (Trail.cells false) (List.set x2.s.1 (x2.s.2).toNat (x2.s.1[((IntKind.i64.wrap (x2.s.2 - 1))).toNat]?.getD default))) (by exact setMapE (by simp) (fun a ha => by first | rfl | (simp only [ha, Option.getD_some]; rfl) | (obtain ⟨_, rfl⟩ := List.getElem?_eq_some_iff.1 ha; rfl) | (simp only [Pol.cells_eq]; rfl) | (simp only [ha, Option.getD_some, Pol.cells_eq]; rfl))) ?_
        refine andE (by (first | omega | (dsimp only <;> omega) | (simp (disch := omega) only [wrap_small, mid_eq, mid_eq1, mid_eq2, mid_eq3, List.length_map, List.length_set] <;> omega) | (simp (disch := omega) only [wrap_small, mid_eq, mid_eq1, mid_eq2, mid_eq3, List.length_map, List.length_set] at * <;> omega))) ?_
        refine rowsE (Y := List.map (Trail.cells false) (List.set (List.set x2.s.1 (x2.s.2).toNat (x2.s.1[((IntKind.i64.wrap (x2.s.2 - 1))).toNat]?.getD default)) ((IntKind.i64.wrap (x2.s.2 - 1))).toNat (x2.s.1[(x2.s.2).toNat]?.getD default))) (by exact setMapE (by simp) (fun a ha => by first | rfl | (simp only [ha, Option.getD_some]; rfl) | (obtain ⟨_, rfl⟩ := List.getElem?_eq_some_iff.1 ha; rfl) | (simp only [Pol.cells_eq]; rfl) | (simp only [ha, Option.getD_some, Pol.cells_eq]; rfl))) ?_
        exact x2.goE hb2 (show (fun s : (List Trail) × Int => (Srt (fun _ => True) s.1 ∧ s.1.length = p0.length) ∧ p1 ≤ s.2 ∧ s.2 < p2) ((List.set (List.set x2.s.1 (x2.s.2).toNat (x2.s.1[((IntKind.i64.wrap (x2.s.2 - 1))).toNat]?.getD default)) ((IntKind.i64.wrap (x2.s.2 - 1))).toNat (x2.s.1[(x2.s.2).toNat]?.getD default)), (IntKind.i64.wrap (x2.s.2 - 1))) ∧ (fun s : (List Trail) × Int => (s.2 - p1).toNat) ((List.set (List.set x2.s.1 (x2.s.2).toNat (x2.s.1[((IntKind.i64.wrap (x2.s.2 - 1))).toNat]?.getD default)) ((IntKind.i64.wrap (x2.s.2 - 1))).toNat (x2.s.1[(x2.s.2).toNat]?.getD default)), (IntKind.i64.wrap (x2.s.2 - 1))) < (fun s : (List Trail) × Int => (s.2 - p1).toNat) x2.s by exact ⟨⟨Sz.swp (N := p0.length) hI2.1 (by (first | omega | (dsimp only <;> omega) | (simp (disch := omega) only [wrap_small, mid_eq, mid_eq1, mid_eq2, mid_eq3, List.length_map, List.length_set] <;> omega) | (simp (disch := omega) only [wrap_small, mid_eq, mid_eq1, mid_eq2, mid_eq3, List.length_map, List.length_set] at * <;> omega))) (by (first | omega | (dsimp only <;> omega) | (simp (disch := omega) only [wrap_small, mid_eq, mid_eq1, mid_eq2, mid_eq3, List.length_map, List.length_set] <;> omega) | (simp (disch := omega) only [wrap_small, mid_eq, mid_eq1, mid_eq2, mid_eq3, List.length_map, List.length_set] at * <;> omega))), by (first | omega | (dsimp only <;> omega) | (simp (disch := omega) only [wrap_small, mid_eq, mid_eq1, mid_eq2, mid_eq3, List.length_map, List.length_set] <;> omega) | (simp (disch := omega) only [wrap_small, mid_eq, mid_eq1, mid_eq2, mid_eq3, List.length_map, List.length_set] at * <;> omega)), by (first | omega | (dsimp only <;> omega) | (simp (disch := omega) only [wrap_small, mid_eq, mid_eq1, mid_eq2, mid_eq3, List.length_map, List.length_set] <;> omega) | (simp (disch := omega) only [wrap_small, mid_eq, mid_eq1, mid_eq2, mid_eq3, List.length_map, List.length_set] at * <;> omega))⟩, by (first | omega | (dsimp only <;> omega) | (simp (disch := omega) only [wrap_small, mid_eq, mid_eq1, mid_eq2, mid_eq3, List.length_map, List.length_set] <;> omega) | (simp (disch := omega) only [wrap_small, mid_eq, mid_eq1, mid_eq2, mid_eq3, List.length_map, List.length_set] at * <;> omega))⟩) [none, some 1] ⟨rfl, ⟨⟨rfl, rfl, rfl, rfl, by (first | rfl | omega | (dsimp only; omega) | (simp; done) | (simp; omega) | (simp [LstSt.init, LstSt.step, LstInv.init, CntSt.init, CntSt.step, CntInv.init, WhlSt.init, WhlSt.step]; done) | (simp [LstSt.init, LstSt.step, LstInv.init, CntSt.init, CntSt.step, CntInv.init, WhlSt.init, WhlSt.step]; omega))⟩, rfl, rfl, rfl, ⟨rfl, trivial⟩, rfl, trivial⟩, ⟨⟨rfl, rfl, rfl⟩, trivial⟩, ⟨⟨rfl, rfl, rfl, rfl, by (first | rfl | omega | (dsimp only; omega) | (simp; done) | (simp; omega) | (simp [LstSt.init, LstSt.step, LstInv.init, CntSt.init, CntSt.step, CntInv.init, WhlSt.init, WhlSt.step]; done) | (simp [LstSt.init, LstSt.step, LstInv.init, CntSt.init, CntSt.step, CntInv.init, WhlSt.init, WhlSt.step]; omega))⟩, trivial⟩⟩
      · have hb1 := finE hb1 (x2.outS hb2)
        exact x1.goE hi1 hb1 (hI2.1) [none, some 1] ⟨rfl, ⟨⟨rfl, rfl, rfl, rfl, by (first | rfl | omega | (dsimp only; omega) | (simp; done) | (simp; omega) | (simp [LstSt.init, LstSt.step, LstInv.init, CntSt.init, CntSt.step, CntInv.init, WhlSt.init, WhlSt.step]; done) | (simp [LstSt.init, LstSt.step, LstInv.init, CntSt.init, CntSt.step, CntInv.init, WhlSt.init, WhlSt.step]; omega))⟩, (eqInt hw1), rfl, rfl, ⟨rfl, trivial⟩, trivial⟩, ⟨⟨rfl, rfl, rfl⟩, trivial⟩, ⟨⟨rfl, rfl, rfl, rfl, by (first | rfl | omega | (dsimp only; omega) | (simp; done) | (simp; omega) | (simp [LstSt.init, LstSt.step, LstInv.init, CntSt.init, CntSt.step, CntInv.init, WhlSt.init, WhlSt.step]; done) | (simp [LstSt.init, LstSt.step, LstInv.init, CntSt.init, CntSt.step, CntInv.init, WhlSt.init, WhlSt.step]; omega))⟩, trivial⟩⟩
    · have hb1 := finE hb1 (x2.outS hb2)
      exact x1.goE hi1 hb1 (hI2.1) [none, some 1] ⟨rfl, ⟨⟨rfl, rfl, rfl, rfl, by (first | rfl | omega | (dsimp only; omega) | (simp; done) | (simp; omega) | (simp [LstSt.init, LstSt.step, LstInv.init, CntSt.init, CntSt.step, CntInv.init, WhlSt.init, WhlSt.step]; done) | (simp [LstSt.init, LstSt.step, LstInv.init, CntSt.init, CntSt.step, CntInv.init, WhlSt.init, WhlSt.step]; omega))⟩, (eqInt hw1), rfl, rfl, ⟨rfl, trivial⟩, trivial⟩, ⟨⟨rfl, rfl, rfl⟩, trivial⟩, ⟨⟨rfl, rfl, rfl, rfl, by (first | rfl | omega | (dsimp only; omega) | (simp; done) | (simp; omega) | (simp [LstSt.init, LstSt.step, LstInv.init, CntSt.init, CntSt.step, CntInv.init, WhlSt.init, WhlSt.step]; done) | (simp [LstSt.init, LstSt.step, LstInv.init, CntSt.init, CntSt.step, CntInv.init, WhlSt.init, WhlSt.step]; omega))⟩, trivial⟩⟩
  have hg := finE hg (x1.fin hi1)
  exact leafM hown hg
def slices_swapRangeCmpFunc_Trail_c_impl_OpenTrails_1_z_b1 (p1 : Int) (p2 : Int) (i1 : Nat) (s1 : (List Trail)) : Step ((List Trail)) (List Trail) :=
  (.next (List.set (List.set s1 ((IntKind.i64.wrap (p1 + ((i1 : Nat) : Int)))).toNat (s1[((IntKind.i64.wrap (p2 + ((i1 : Nat) : Int)))).toNat]?.getD default)) ((IntKind.i64.wrap (p2 + ((i1 : Nat) : Int)))).toNat (s1[((IntKind.i64.wrap (p1 + ((i1 : Nat) : Int)))).toNat]?.getD default)))
def slices_swapRangeCmpFunc_Trail_c_impl_OpenTrails_1_z (p0 : (List Trail)) (p1 : Int) (p2 : Int) (p3 : Int) : (List Trail) :=
  (Fin.get (fun s1 => s1) (loopC (slices_swapRangeCmpFunc_Trail_c_impl_OpenTrails_1_z_b1 p1 p2) 0 p0 (p3).toNat))
theorem e_slices_swapRangeCmpFunc_Trail_c_impl_OpenTrails_1_z (p0 : List Trail) (p1 p2 p3 : Int) : slices_swapRangeCmpFunc_Trail_c_impl_OpenTrails_1_z p0 p1 p2 p3 = g_swapRange p0 p1 p2 p3 impl_OpenTrails_1 := rfl
theorem len_slices_swapRangeCmpFunc_Trail_c_impl_OpenTrails_1_z (p0 : List Trail) (p1 p2 p3 : Int) : (slices_swapRangeCmpFunc_Trail_c_impl_OpenTrails_1_z p0 p1 p2 p3).length = p0.length := by rw [e_slices_swapRangeCmpFunc_Trail_c_impl_OpenTrails_1_z]; exact len_g_swapRange ..
theorem c_slices_swapRangeCmpFunc_Trail_c_impl_OpenTrails_1_z (p0 : (List Trail)) (p1 : Int) (p2 : Int) (p3 : Int) (hs : (Srt (fun _ => True) p0 ∧ p0.length ≤ 288230376151711744) ∧ (0 ≤ p1 ∧ 0 ≤ p2 ∧ 0 ≤ p3) ∧ p1 + p3 ≤ ((p0.length : Nat) : Int) ∧ p2 + p3 ≤ ((p0.length : Nat) : Int)) : FnOk prog 140 [.tup [.one (.s true 4 (List.map (Trail.cells false) p0))], .one (.v (.int .i64 p1)), .one (.v (.int .i64 p2)), .one (.v (.int .i64 p3)), .one (.c 84 [])] ⟨.tup [], [.one (.s true 4 (List.map (Trail.cells false) ((slices_swapRangeCmpFunc_Trail_c_impl_OpenTrails_1_z p0 p1 p2 p3))))], [], false⟩ := by
  refine FnOk.introM (E := env) envOk wide func140 rfl (by kernel_rfl) rfl ?_
  have hg := slices_swapRangeCmpFunc_Trail_c_impl_OpenTrails_1_z.eq_1 p0 p1 p2 p3
  have hown : (∀ g : (List Trail), AV.Own (AV.tup [])) ∧ (fun g : (List Trail) => T.s true 4 (List.map (Trail.cells false) (g))) = _ := ⟨fun g => trivial, rfl⟩
  refine seqE ?_
  refine loopCI (fun _ s => (Srt (fun _ => True) s ∧ s.length = p0.length)) hg (⟨hs.1.1, rfl⟩) [0, 1, 2, 3] (fun x1 => [(10, .one (.v (.int .i64 ((x1.i : Nat) : Int))))]) (fun x1 => [.dead, .new ⟨4, false, List.map (Trail.cells false) x1.s, 0⟩]) [none, some 1] ?_ (fun x1 => ?_)
  · exact ⟨rfl, ⟨rfl, ⟨rfl, rfl, rfl, rfl, by (first | rfl | omega | (dsimp only; omega) | (simp; done) | (simp; omega) | (simp [LstSt.init, LstSt.step, LstInv.init, CntSt.init, CntSt.step, CntInv.init, WhlSt.init, WhlSt.step]; done) | (simp [LstSt.init, LstSt.step, LstInv.init, CntSt.init, CntSt.step, CntInv.init, WhlSt.init, WhlSt.step]; omega))⟩, rfl, rfl, rfl, trivial⟩, ⟨⟨rfl, rfl, rfl⟩, trivial⟩, ⟨⟨rfl, rfl, rfl, rfl, by (first | rfl | omega | (dsimp only; omega) | (simp; done) | (simp; omega) | (simp [LstSt.init, LstSt.step, LstInv.init, CntSt.init, CntSt.step, CntInv.init, WhlSt.init, WhlSt.step]; done) | (simp [LstSt.init, LstSt.step, LstInv.init, CntSt.init, CntSt.step, CntInv.init, WhlSt.init, WhlSt.step]; omega))⟩, trivial⟩⟩
  have hI1 := x1.hI
  try dsimp only at hI1
  refine seqE ?_
  refine seqE ?_
  refine tstC (fun hi1 => ?_) (fun hi1 => ?_)
  · have hb1 := (x1.bdy hi1).trans (slices_swapRangeCmpFunc_Trail_c_impl_OpenTrails_1_z_b1.eq_1 ..)
    have hw1 := wrapC hi1
    refine seqE ?_
    refine .inr (.inr (.inr ⟨(.q 0 (.q 1 (.q 2 (.q 3 (.q 4 (.q 5 (.q 6 (.q 7 (.q 8 (.q 9 (.q 10 (.q 11 (.q 12 (.q 14 (.q 15 (.q 16 (.q 17 (.q 18 (.b 13 (.o 19 (.o 20 (.o 21 (.o 22 (.o 23 .leaf))))) 19 (.o 13 (.o 20 (.o 21 (.o 22 (.o 23 .leaf)))))))))))))))))))))))), by kernel_rfl, ?_⟩))
    refine andE (by (first | omega | (dsimp only <;> omega) | (simp (disch := omega) only [wrap_small, mid_eq, mid_eq1, mid_eq2, mid_eq3, List.length_map, List.length_set] <;> omega) | (simp (disch := omega) only [wrap_small, mid_eq, mid_eq1, mid_eq2, mid_eq3, List.length_map, List.length_set] at * <;> omega))) ?_
    refine andE (by (first | omega | (dsimp only <;> omega) | (simp (disch := omega) only [wrap_small, mid_eq, mid_eq1, mid_eq2, mid_eq3, List.length_map, List.length_set] <;> omega) | (simp (disch := omega) only [wrap_small, mid_eq, mid_eq1, mid_eq2, mid_eq3, List.length_map, List.length_set] at * <;> omega))) ?_
    refine And.intro ?_ ?_
    · refine rowGet (i := ((IntKind.i64.wrap (p2 + ((x1.i : Nat) : Int)))).toNat) (l := x1.s) (by first | rfl | exact Nat.zero_add _ | simp) (fun hq1 => ?_)
      refine rowGet (i := ((IntKind.i64.wrap (p1 + ((x1.i : Nat) : Int)))).toNat) (l := x1.s) (by first | rfl | exact Nat.zero_add _ | simp) (fun hq2 => ?_)
      refine andE (by (first | omega | (dsimp only <;> omega) | (simp (disch := omega) only [wrap_small, mid_eq, mid_eq1, mid_eq2, mid_eq3, List.length_map, List.length_set] <;> omega) | (simp (disch := omega) only [wrap_small, mid_eq, mid_eq1, mid_eq2, mid_eq3, List.length_map, List.length_set] at * <;> omega))) ?_
      refine rowsE (Y := List.map (Trail.cells false) (List.set x1.s ((IntKind.i64.wrap (p1 + ((x1.i : Nat) : Int)))).toNat (x1.s[((IntKind.i64.wrap (p2 + ((x1.i : Nat) : Int)))).toNat]?.getD default))) (by exact setMapE (by simp) (fun a ha => by first | rfl | (simp only [ha, Option.getD_some]; rfl) | (obtain ⟨_, rfl⟩ := List.getElem?_eq_some_iff.1 ha; rfl) | (simp only [Pol.cells_eq]; rfl) | (simp only [ha, Option.getD_some, Pol.cells_eq]; rfl))) ?_
      refine andE (by (first | omega | (dsimp only <;> omega) | (simp (disch := omega) only [wrap_small, mid_eq, mid_eq1, mid_eq2, mid_eq3, List.length_map, List.length_set] <;> omega) | (simp (disch := omega) only [wrap_small, mid_eq, mid_eq1, mid_eq2, mid_eq3, List.length_map, List.length_set] at * <;> omega))) ?_
      refine rowsE (Y := List.map (Trail.cells false) (List.set (List.set x1.s ((IntKind.i64.wrap (p1 + ((x1.i : Nat) : Int)))).toNat (x1.s[((IntKind.i64.wrap (p2 + ((x1.i : Nat) : Int)))).toNat]?.getD default)) ((IntKind.i64.wrap (p2 + ((x1.i : Nat) : Int)))).toNat (x1.s[((IntKind.i64.wrap (p1 + ((x1.i : Nat) : Int)))).toNat]?.getD default))) (by exact setMapE (by simp) (fun a ha => by first | rfl | (simp only [ha, Option.getD_some]; rfl) | (obtain ⟨_, rfl⟩ := List.getElem?_eq_some_iff.1 ha; rfl) | (simp only [Pol.cells_eq]; rfl) | (simp only [ha, Option.getD_some, Pol.cells_eq]; rfl))) ?_
      exact x1.goE hi1 hb1 (Sz.swp (N := p0.length) hI1 (by (first | omega | (dsimp only <;> omega) | (simp (disch := omega) only [wrap_small, mid_eq, mid_eq1, mid_eq2, mid_eq3, List.length_map, List.length_set] <;> omega) | (simp (disch := omega) only [wrap_small, mid_eq, mid_eq1, mid_eq2, mid_eq3, List.length_map, List.length_set] at * <;> omega))) (by (first | omega | (dsimp only <;> omega) | (simp (disch := omega) only [wrap_small, mid_eq, mid_eq1, mid_eq2, mid_eq3, List.length_map, List.length_set] <;> omega) | (simp (disch := omega) only [wrap_small, mid_eq, mid_eq1, mid_eq2, mid_eq3, List.length_map, List.length_set] at * <;> omega)))) [none, some 1] ⟨rfl, ⟨(eqInt hw1), ⟨rfl, rfl, rfl, rfl, by (first | rfl | omega | (dsimp only; omega) | (simp; done) | (simp; omega) | (simp [LstSt.init, LstSt.step, LstInv.init, CntSt.init, CntSt.step, CntInv.init, WhlSt.init, WhlSt.step]; done) | (simp [LstSt.init, LstSt.step, LstInv.init, CntSt.init, CntSt.step, CntInv.init, WhlSt.init, WhlSt.step]; omega))⟩, rfl, rfl, rfl, trivial⟩, ⟨⟨rfl, rfl, rfl⟩, trivial⟩, ⟨⟨rfl, rfl, rfl, rfl, by (first | rfl | omega | (dsimp only; omega) | (simp; done) | (simp; omega) | (simp [LstSt.init, LstSt.step, LstInv.init, CntSt.init, CntSt.step, CntInv.init, WhlSt.init, WhlSt.step]; done) | (simp [LstSt.init, LstSt.step, LstInv.init, CntSt.init, CntSt.step, CntInv.init, WhlSt.init, WhlSt.step]; omega))⟩, trivial⟩⟩
    refine rowGet (i := ((IntKind.i64.wrap (p1 + ((x1.i : Nat) : Int)))).toNat) (l := x1.s) (by first | rfl | exact Nat.zero_add _ | simp) (fun hq3 => ?_)
    refine rowGet (i := ((IntKind.i64.wrap (p2 + ((x1.i : Nat) : Int)))).toNat) (l := x1.s) (by first | rfl | exact Nat.zero_add _ | simp) (fun hq4 => ?_)
    refine andE (by (first | omega | (dsimp only <;> omega) | (simp (disch := omega) only [wrap_small, mid_eq, mid_eq1, mid_eq2, mid_eq3, List.length_map, List.length_set] <;> omega) | (simp (disch := omega) only [wrap_small, mid_eq, mid_eq1, mid_eq2, mid_eq3, List.length_map, List.length_set] at * <;> omega))) ?_
    refine rowsE (Y := List.map (Trail.cells false) (List.set x1.s ((IntKind.i64.wrap (p1 + ((x1.i : Nat) : Int)))).toNat (x1.s[((IntKind.i64.wrap (p2 + ((x1.i : Nat) : Int)))).toNat]?.getD default))) (by exact setMapE (by simp) (fun a ha => by first | rfl | (simp only [ha, Option.getD_some]; rfl) | (obtain ⟨_, rfl⟩ := List.getElem?_eq_some_iff.1 ha; rfl) | (simp only [Pol.cells_eq]; rfl) | (simp only [ha, Option.getD_some, Pol.cells_eq]; rfl))) ?_
    refine andE (by (first | omega | (dsimp only <;> omega) | (simp (disch := omega) only [wrap_small, mid_eq, mid_eq1, mid_eq2, mid_eq3, List.length_map, List.length_set] <;> omega) | (simp (disch := omega) only [wrap_small, mid_eq, mid_eq1, mid_eq2, mid_eq3, List.length_map, List.length_set] at * <;> omega))) ?_
    refine rowsE (Y := List.map (Trail.cells false) (List.set (List.set x1.s ((IntKind.i64.wrap (p1 + ((x1.i : Nat) : Int)))).toNat (x1.s[((IntKind.i64.wrap (p2 + ((x1.i : Nat) : Int)))).toNat]?.getD default)) ((IntKind.i64.wrap (p2 + ((x1.i : Nat) : Int)))).toNat (x1.s[((IntKind.i64.wrap (p1 + ((x1.i : Nat) : Int)))).toNat]?.getD default))) (by exact setMapE (by simp) (fun a ha => by first | rfl | (simp only [ha, Option.getD_some]; rfl) | (obtain ⟨_, rfl⟩ := List.getElem?_eq_some_iff.1 ha; rfl) | (simp only [Pol.cells_eq]; rfl) | (simp only [ha, Option.getD_some, Pol.cells_eq]; rfl))) ?_
    exact x1.goE hi1 hb1 (Sz.swp (N := p0.length) hI1 (by (first | omega | (dsimp only <;> omega) | (simp (disch := omega) only [wrap_small, mid_eq, mid_eq1, mid_eq2, mid_eq3, List.length_map, List.length_set] <;> omega) | (simp (disch := omega) only [wrap_small, mid_eq, mid_eq1, mid_eq2, mid_eq3, List.length_map, List.length_set] at * <;> omega))) (by (first | omega | (dsimp only <;> omega) | (simp (disch := omega) only [wrap_small, mid_eq, mid_eq1, mid_eq2, mid_eq3, List.length_map, List.length_set] <;> omega) | (simp (disch := omega) only [wrap_small, mid_eq, mid_eq1, mid_eq2, mid_eq3, List.length_map, List.length_set] at * <;> omega)))) [none, some 1] ⟨rfl, ⟨(eqInt hw1), ⟨rfl, rfl, rfl, rfl, by (first | rfl | omega | (dsimp only; omega) | (simp; done) | (simp; omega) | (simp [LstSt.init, LstSt.step, LstInv.init, CntSt.init, CntSt.step, CntInv.init, WhlSt.init, WhlSt.step]; done) | (simp [LstSt.init, LstSt.step, LstInv.init, CntSt.init, CntSt.step, CntInv.init, WhlSt.init, WhlSt.step]; omega))⟩, rfl, rfl, rfl, trivial⟩, ⟨⟨rfl, rfl, rfl⟩, trivial⟩, ⟨⟨rfl, rfl, rfl, rfl, by (first | rfl | omega | (dsimp only; omega) | (simp; done) | (simp; omega) | (simp [LstSt.init, LstSt.step, LstInv.init, CntSt.init, CntSt.step, CntInv.init, WhlSt.init, WhlSt.step]; done) | (simp [LstSt.init, LstSt.step, LstInv.init, CntSt.init, CntSt.step, CntInv.init, WhlSt.init, WhlSt.step]; omega))⟩, trivial⟩⟩
  have hg := finE hg (x1.fin hi1)
  exact leafM hown hg
def slices_rotateCmpFunc_Trail_c_impl_OpenTrails_1_z_b1 (p2 : Int) (s1 : (List Trail) × Int × Int) : Step ((List Trail) × Int × Int) (List Trail) :=
  (bif (s1.2.1 != s1.2.2) then (bif (decide (s1.2.1 > s1.2.2)) then (.next ((slices_swapRangeCmpFunc_Trail_c_impl_OpenTrails_1_z s1.1 (IntKind.i64.wrap (p2 - s1.2.1)) p2 s1.2.2), (IntKind.i64.wrap (s1.2.1 - s1.2.2)), s1.2.2)) else (.next ((slices_swapRangeCmpFunc_Trail_c_impl_OpenTrails_1_z s1.1 (IntKind.i64.wrap (p2 - s1.2.1)) (IntKind.i64.wrap ((IntKind.i64.wrap (p2 + s1.2.2)) - s1.2.1)) s1.2.1), s1.2.1, (IntKind.i64.wrap (s1.2.2 - s1.2.1))))) else (.stop (s1.1, s1.2.1, s1.2.2)))
def slices_rotateCmpFunc_Trail_c_impl_OpenTrails_1_z (p0 : (List Trail)) (p1 : Int) (p2 : Int) (p3 : Int) : (List Trail) :=
  (Fin.get (fun s1 => (slices_swapRangeCmpFunc_Trail_c_impl_OpenTrails_1_z s1.1 (IntKind.i64.wrap (p2 - s1.2.1)) p2 s1.2.1)) (loopW (slices_rotateCmpFunc_Trail_c_impl_OpenTrails_1_z_b1 p2) ((fun s : (List Trail) × Int × Int => (s.2.1 + s.2.2).toNat) (p0, (IntKind.i64.wrap (p2 - p1)), (IntKind.i64.wrap (p3 - p2)))) (p0, (IntKind.i64.wrap (p2 - p1)), (IntKind.i64.wrap (p3 - p2)))))
theorem e_slices_rotateCmpFunc_Trail_c_impl_OpenTrails_1_z (p0 : List Trail) (p1 p2 p3 : Int) : slices_rotateCmpFunc_Trail_c_impl_OpenTrails_1_z p0 p1 p2 p3 = g_rotate p0 p1 p2 p3 impl_OpenTrails_1 := rfl
theorem len_slices_rotateCmpFunc_Trail_c_impl_OpenTrails_1_z (p0 : List Trail) (p1 p2 p3 : Int) : (slices_rotateCmpFunc_Trail_c_impl_OpenTrails_1_z p0 p1 p2 p3).length = p0.length := by rw [e_slices_rotateCmpFunc_Trail_c_impl_OpenTrails_1_z]; exact len_g_rotate ..
theorem c_slices_rotateCmpFunc_Trail_c_impl_OpenTrails_1_z (p0 : (List Trail)) (p1 : Int) (p2 : Int) (p3 : Int) (hs : (Srt (fun _ => True) p0 ∧ p0.length ≤ 288230376151711744) ∧ 0 ≤ p1 ∧ p1 < p2 ∧ p2 < p3 ∧ p3 ≤ ((p0.length : Nat) : Int)) : FnOk prog 137 [.tup [.one (.s true 4 (List.map (Trail.cells false) p0))], .one (.v (.int .i64 p1)), .one (.v (.int .i64 p2)), .one (.v (.int .i64 p3)), .one (.c 84 [])] ⟨.tup [], [.one (.s true 4 (List.map (Trail.cells false) ((slices_rotateCmpFunc_Trail_c_impl_OpenTrails_1_z p0 p1 p2 p3))))], [], false⟩ := by
  refine FnOk.introM (E := env) envOk wide func137 rfl (by kernel_rfl) rfl ?_
  have hg := slices_rotateCmpFunc_Trail_c_impl_OpenTrails_1_z.eq_1 p0 p1 p2 p3
  have hown : (∀ g : (List Trail), AV.Own (AV.tup [])) ∧ (fun g : (List Trail) => T.s true 4 (List.map (Trail.cells false) (g))) = _ := ⟨fun g => trivial, rfl⟩
  refine seqE ?_
  refine seqE ?_
  refine seqE ?_
  refine loopWE (m := (fun s : (List Trail) × Int × Int => (s.2.1 + s.2.2).toNat)) (s0 := (p0, (IntKind.i64.wrap (p2 - p1)), (IntKind.i64.wrap (p3 - p2)))) (fun s : (List Trail) × Int × Int => (Srt (fun _ => True) s.1 ∧ s.1.length = p0.length) ∧ 0 < s.2.1 ∧ 0 < s.2.2 ∧ p1 ≤ p2 - s.2.1 ∧ p2 + s.2.2 ≤ p3) hg (by exact ⟨⟨hs.1.1, rfl⟩, by (first | omega | (dsimp only <;> omega) | (simp (disch := omega) only [wrap_small, mid_eq, mid_eq1, mid_eq2, mid_eq3, List.length_map, List.length_set] <;> omega) | (simp (disch := omega) only [wrap_small, mid_eq, mid_eq1, mid_eq2, mid_eq3, List.length_map, List.length_set] at * <;> omega)), by (first | omega | (dsimp only <;> omega) | (simp (disch := omega) only [wrap_small, mid_eq, mid_eq1, mid_eq2, mid_eq3, List.length_map, List.length_set] <;> omega) | (simp (disch := omega) only [wrap_small, mid_eq, mid_eq1, mid_eq2, mid_eq3, List.length_map, List.length_set] at * <;> omega)), by (first | omega | (dsimp only <;> omega) | (simp (disch := omega) only [wrap_small, mid_eq, mid_eq1, mid_eq2, mid_eq3, List.length_map, List.length_set] <;> omega) | (simp (disch := omega) only [wrap_small, mid_eq, mid_eq1, mid_eq2, mid_eq3, List.length_map, List.length_set] at * <;> omega)), by (first | omega | (dsimp only <;> omega) | (simp (disch := omega) only [wrap_small, mid_eq, mid_eq1, mid_eq2, mid_eq3, List.length_map, List.length_set] <;> omega) | (simp (disch := omega) only [wrap_small, mid_eq, mid_eq1, mid_eq2, mid_eq3, List.length_map, List.length_set] at * <;> omega))⟩) [0, 2, 4] (fun x1 => [(10, .one (.v (.int .i64 x1.s.2.1))), (11, .one (.v (.int .i64 x1.s.2.2)))]) (fun x1 => [.dead, .new ⟨4, false, List.map (Trail.cells false) x1.s.1, 0⟩]) [none, some 1] ?_ (fun x1 => ?_)
  · exact ⟨rfl, ⟨rfl, rfl, ⟨rfl, rfl, rfl, rfl, by (first | rfl | omega | (dsimp only; omega) | (simp; done) | (simp; omega) | (simp [LstSt.init, LstSt.step, LstInv.init, CntSt.init, CntSt.step, CntInv.init, WhlSt.init, WhlSt.step]; done) | (simp [LstSt.init, LstSt.step, LstInv.init, CntSt.init, CntSt.step, CntInv.init, WhlSt.init, WhlSt.step]; omega))⟩, rfl, ⟨rfl, trivial⟩, trivial⟩, ⟨⟨rfl, rfl, rfl⟩, trivial⟩, ⟨⟨rfl, rfl, rfl, rfl, by (first | rfl | omega | (dsimp only; omega) | (simp; done) | (simp; omega) | (simp [LstSt.init, LstSt.step, LstInv.init, CntSt.init, CntSt.step, CntInv.init, WhlSt.init, WhlSt.step]; done) | (simp [LstSt.init, LstSt.step, LstInv.init, CntSt.init, CntSt.step, CntInv.init, WhlSt.init, WhlSt.step]; omega))⟩, trivial⟩⟩
  have hI1 := x1.hI
  try dsimp only at hI1
  have hb1 := x1.bdy.trans (slices_rotateCmpFunc_Trail_c_impl_OpenTrails_1_z_b1.eq_1 ..)
  refine seqE ?_
  refine seqE ?_
  refine brW hb1 (fun hb1 h1 => ?_) (fun hb1 h1 => ?_)
  · refine seqE ?_
    refine brD hb1 (fun hb1 h2 => ?_) (fun hb1 h2 => ?_)
    · refine seqE ?_
      refine .inr ⟨0, _, _, _, c_slices_swapRangeCmpFunc_Trail_c_impl_OpenTrails_1_z x1.s.1 (IntKind.i64.wrap (p2 - x1.s.2.1)) p2 x1.s.2.2 (by exact ⟨⟨hI1.1.1, by (first | omega | (dsimp only <;> omega) | (simp (disch := omega) only [wrap_small, mid_eq, mid_eq1, mid_eq2, mid_eq3, List.length_map, List.length_set] <;> omega) | (simp (disch := omega) only [wrap_small, mid_eq, mid_eq1, mid_eq2, mid_eq3, List.length_map, List.length_set] at * <;> omega))⟩, ⟨by (first | omega | (dsimp only <;> omega) | (simp (disch := omega) only [wrap_small, mid_eq, mid_eq1, mid_eq2, mid_eq3, List.length_map, List.length_set] <;> omega) | (simp (disch := omega) only [wrap_small, mid_eq, mid_eq1, mid_eq2, mid_eq3, List.length_map, List.length_set] at * <;> omega)), by (first | omega | (dsimp only <;> omega) | (simp (disch := omega) only [wrap_small, mid_eq, mid_eq1, mid_eq2, mid_eq3, List.length_map, List.length_set] <;> omega) | (simp (disch := omega) only [wrap_small, mid_eq, mid_eq1, mid_eq2, mid_eq3, List.length_map, List.length_set] at * <;> omega)), by (first | omega | (dsimp only <;> omega) | (simp (disch := omega) only [wrap_small, mid_eq, mid_eq1, mid_eq2, mid_eq3, List.length_map, List.length_set] <;> omega) | (simp (disch := omega) only [wrap_small, mid_eq, mid_eq1, mid_eq2, mid_eq3, List.length_map, List.length_set] at * <;> omega))⟩, by (first | omega | (dsimp only <;> omega) | (simp (disch := omega) only [wrap_small, mid_eq, mid_eq1, mid_eq2, mid_eq3, List.length_map, List.length_set] <;> omega) | (simp (disch := omega) only [wrap_small, mid_eq, mid_eq1, mid_eq2, mid_eq3, List.length_map, List.length_set] at * <;> omega)), by (first | omega | (dsimp only <;> omega) | (simp (disch := omega) only [wrap_small, mid_eq, mid_eq1, mid_eq2, mid_eq3, List.length_map, List.length_set] <;> omega) | (simp (disch := omega) only [wrap_small, mid_eq, mid_eq1, mid_eq2, mid_eq3, List.length_map, List.length_set] at * <;> omega))⟩), (FzAs.same _), .inl ?_⟩
      refine litE (m := 3) rfl ?_
      have hz3 := len_slices_swapRangeCmpFunc_Trail_c_impl_OpenTrails_1_z x1.s.1 (IntKind.i64.wrap (p2 - x1.s.2.1)) p2 x1.s.2.2
      exact x1.goE hb1 (show (fun s : (List Trail) × Int × Int => (Srt (fun _ => True) s.1 ∧ s.1.length = p0.length) ∧ 0 < s.2.1 ∧ 0 < s.2.2 ∧ p1 ≤ p2 - s.2.1 ∧ p2 + s.2.2 ≤ p3) ((slices_swapRangeCmpFunc_Trail_c_impl_OpenTrails_1_z x1.s.1 (IntKind.i64.wrap (p2 - x1.s.2.1)) p2 x1.s.2.2), (IntKind.i64.wrap (x1.s.2.1 - x1.s.2.2)), x1.s.2.2) ∧ (fun s : (List Trail) × Int × Int => (s.2.1 + s.2.2).toNat) ((slices_swapRangeCmpFunc_Trail_c_impl_OpenTrails_1_z x1.s.1 (IntKind.i64.wrap (p2 - x1.s.2.1)) p2 x1.s.2.2), (IntKind.i64.wrap (x1.s.2.1 - x1.s.2.2)), x1.s.2.2) < (fun s : (List Trail) × Int × Int => (s.2.1 + s.2.2).toNat) x1.s by refine ⟨⟨?_, by (first | omega | (dsimp only <;> omega) | (simp (disch := omega) only [wrap_small, mid_eq, mid_eq1, mid_eq2, mid_eq3, List.length_map, List.length_set] <;> omega) | (simp (disch := omega) only [wrap_small, mid_eq, mid_eq1, mid_eq2, mid_eq3, List.length_map, List.length_set] at * <;> omega)), by (first | omega | (dsimp only <;> omega) | (simp (disch := omega) only [wrap_small, mid_eq, mid_eq1, mid_eq2, mid_eq3, List.length_map, List.length_set] <;> omega) | (simp (disch := omega) only [wrap_small, mid_eq, mid_eq1, mid_eq2, mid_eq3, List.length_map, List.length_set] at * <;> omega)), by (first | omega | (dsimp only <;> omega) | (simp (disch := omega) only [wrap_small, mid_eq, mid_eq1, mid_eq2, mid_eq3, List.length_map, List.length_set] <;> omega) | (simp (disch := omega) only [wrap_small, mid_eq, mid_eq1, mid_eq2, mid_eq3, List.length_map, List.length_set] at * <;> omega)), by (first | omega | (dsimp only <;> omega) | (simp (disch := omega) only [wrap_small, mid_eq, mid_eq1, mid_eq2, mid_eq3, List.length_map, List.length_set] <;> omega) | (simp (disch := omega) only [wrap_small, mid_eq, mid_eq1, mid_eq2, mid_eq3, List.length_map, List.length_set] at * <;> omega))⟩, by (first | omega | (dsimp only <;> omega) | (simp (disch := omega) only [wrap_small, mid_eq, mid_eq1, mid_eq2, mid_eq3, List.length_map, List.length_set] <;> omega) | (simp (disch := omega) only [wrap_small, mid_eq, mid_eq1, mid_eq2, mid_eq3, List.length_map, List.length_set] at * <;> omega))⟩; (show Sz _ p0.length _); dsimp only; rw [e_slices_swapRangeCmpFunc_Trail_c_impl_OpenTrails_1_z]; exact sz_swap (N := p0.length) hI1.1 (by (first | omega | (dsimp only <;> omega) | (simp (disch := omega) only [wrap_small, mid_eq, mid_eq1, mid_eq2, mid_eq3, List.length_map, List.length_set] <;> omega) | (simp (disch := omega) only [wrap_small, mid_eq, mid_eq1, mid_eq2, mid_eq3, List.length_map, List.length_set] at * <;> omega))) (by (first | omega | (dsimp only <;> omega) | (simp (disch := omega) only [wrap_small, mid_eq, mid_eq1, mid_eq2, mid_eq3, List.length_map, List.length_set] <;> omega) | (simp (disch := omega) only [wrap_small, mid_eq, mid_eq1, mid_eq2, mid_eq3, List.length_map, List.length_set] at * <;> omega))) (by (first | omega | (dsimp only <;> omega) | (simp (disch := omega) only [wrap_small, mid_eq, mid_eq1, mid_eq2, mid_eq3, List.length_map, List.length_set] <;> omega) | (simp (disch := omega) only [wrap_small, mid_eq, mid_eq1, mid_eq2, mid_eq3, List.length_map, List.length_set] at * <;> omega))) (by (first | omega | (dsimp only <;> omega) | (simp (disch := omega) only [wrap_small, mid_eq, mid_eq1, mid_eq2, mid_eq3, List.length_map, List.length_set] <;> omega) | (simp (disch := omega) only [wrap_small, mid_eq, mid_eq1, mid_eq2, mid_eq3, List.length_map, List.length_set] at * <;> omega))) (by (first | omega | (dsimp only <;> omega) | (simp (disch := omega) only [wrap_small, mid_eq, mid_eq1, mid_eq2, mid_eq3, List.length_map, List.length_set] <;> omega) | (simp (disch := omega) only [wrap_small, mid_eq, mid_eq1, mid_eq2, mid_eq3, List.length_map, List.length_set] at * <;> omega))) (by omega)) [none, some 1] ⟨rfl, ⟨rfl, rfl, ⟨rfl, rfl, rfl, rfl, by (first | rfl | omega | (dsimp only; omega) | (simp; done) | (simp; omega) | (simp [LstSt.init, LstSt.step, LstInv.init, CntSt.init, CntSt.step, CntInv.init, WhlSt.init, WhlSt.step]; done) | (simp [LstSt.init, LstSt.step, LstInv.init, CntSt.init, CntSt.step, CntInv.init, WhlSt.init, WhlSt.step]; omega))⟩, rfl, ⟨rfl, trivial⟩, trivial⟩, ⟨⟨rfl, rfl, rfl⟩, trivial⟩, ⟨⟨rfl, rfl, rfl, rfl, by (first | rfl | omega | (dsimp only; omega) | (simp; done) | (simp; omega) | (simp [LstSt.init, LstSt.step, LstInv.init, CntSt.init, CntSt.step, CntInv.init, WhlSt.init, WhlSt.step]; done) | (simp [LstSt.init, LstSt.step, LstInv.init, CntSt.init, CntSt.step, CntInv.init, WhlSt.init, WhlSt.step]; omega))⟩, trivial⟩⟩
    · refine seqE ?_
      refine .inr ⟨0, _, _, _, c_slices_swapRangeCmpFunc_Trail_c_impl_OpenTrails_1_z x1.s.1 (IntKind.i64.wrap (p2 - x1.s.2.1)) (IntKind.i64.wrap ((IntKind.i64.wrap (p2 + x1.s.2.2)) - x1.s.2.1)) x1.s.2.1 (by exact ⟨⟨hI1.1.1, by (first | omega | (dsimp only <;> omega) | (simp (disch := omega) only [wrap_small, mid_eq, mid_eq1, mid_eq2, mid_eq3, List.length_map, List.length_set] <;> omega) | (simp (disch := omega) only [wrap_small, mid_eq, mid_eq1, mid_eq2, mid_eq3, List.length_map, List.length_set] at * <;> omega))⟩, ⟨by (first | omega | (dsimp only <;> omega) | (simp (disch := omega) only [wrap_small, mid_eq, mid_eq1, mid_eq2, mid_eq3, List.length_map, List.length_set] <;> omega) | (simp (disch := omega) only [wrap_small, mid_eq, mid_eq1, mid_eq2, mid_eq3, List.length_map, List.length_set] at * <;> omega)), by (first | omega | (dsimp only <;> omega) | (simp (disch := omega) only [wrap_small, mid_eq, mid_eq1, mid_eq2, mid_eq3, List.length_map, List.length_set] <;> omega) | (simp (disch := omega) only [wrap_small, mid_eq, mid_eq1, mid_eq2, mid_eq3, List.length_map, List.length_set] at * <;> omega)), by (first | omega | (dsimp only <;> omega) | (simp (disch := omega) only [wrap_small, mid_eq, mid_eq1, mid_eq2, mid_eq3, List.length_map, List.length_set] <;> omega) | (simp (disch := omega) only [wrap_small, mid_eq, mid_eq1, mid_eq2, mid_eq3, List.length_map, List.length_set] at * <;> omega))⟩, by (first | omega | (dsimp only <;> omega) | (simp (disch := omega) only [wrap_small, mid_eq, mid_eq1, mid_eq2, mid_eq3, List.length_map, List.length_set] <;> omega) | (simp (disch := omega) only [wrap_small, mid_eq, mid_eq1, mid_eq2, mid_eq3, List.length_map, List.length_set] at * <;> omega)), by (first | omega | (dsimp only <;> omega) | (simp (disch := omega) only [wrap_small, mid_eq, mid_eq1, mid_eq2, mid_eq3, List.length_map, List.length_set] <;> omega) | (simp (disch := omega) only [wrap_small, mid_eq, mid_eq1, mid_eq2, mid_eq3, List.length_map, List.length_set] at * <;> omega))⟩), (FzAs.same _), .inl ?_⟩
      refine litE (m := 3) rfl ?_
      have hz4 := len_slices_swapRangeCmpFunc_Trail_c_impl_OpenTrails_1_z x1.s.1 (IntKind.i64.wrap (p2 - x1.s.2.1)) (IntKind.i64.wrap ((IntKind.i64.wrap (p2 + x1.s.2.2)) - x1.s.2.1)) x1.s.2.1
      exact x1.goE hb1 (show (fun s : (List Trail) × Int × Int => (Srt (fun _ => True) s.1 ∧ s.1.length = p0.length) ∧ 0 < s.2.1 ∧ 0 < s.2.2 ∧ p1 ≤ p2 - s.2.1 ∧ p2 + s.2.2 ≤ p3) ((slices_swapRangeCmpFunc_Trail_c_impl_OpenTrails_1_z x1.s.1 (IntKind.i64.wrap (p2 - x1.s.2.1)) (IntKind.i64.wrap ((IntKind.i64.wrap (p2 + x1.s.2.2)) - x1.s.2.1)) x1.s.2.1), x1.s.2.1, (IntKind.i64.wrap (x1.s.2.2 - x1.s.2.1))) ∧ (fun s : (List Trail) × Int × Int => (s.2.1 + s.2.2).toNat) ((slices_swapRangeCmpFunc_Trail_c_impl_OpenTrails_1_z x1.s.1 (IntKind.i64.wrap (p2 - x1.s.2.1)) (IntKind.i64.wrap ((IntKind.i64.wrap (p2 + x1.s.2.2)) - x1.s.2.1)) x1.s.2.1), x1.s.2.1, (IntKind.i64.wrap (x1.s.2.2 - x1.s.2.1))) < (fun s : (List Trail) × Int × Int => (s.2.1 + s.2.2).toNat) x1.s by refine ⟨⟨?_, by (first | omega | (dsimp only <;> omega) | (simp (disch := omega) only [wrap_small, mid_eq, mid_eq1, mid_eq2, mid_eq3, List.length_map, List.length_set] <;> omega) | (simp (disch := omega) only [wrap_small, mid_eq, mid_eq1, mid_eq2, mid_eq3, List.length_map, List.length_set] at * <;> omega)), by (first | omega | (dsimp only <;> omega) | (simp (disch := omega) only [wrap_small, mid_eq, mid_eq1, mid_eq2, mid_eq3, List.length_map, List.length_set] <;> omega) | (simp (disch := omega) only [wrap_small, mid_eq, mid_eq1, mid_eq2, mid_eq3, List.length_map, List.length_set] at * <;> omega)), by (first | omega | (dsimp only <;> omega) | (simp (disch := omega) only [wrap_small, mid_eq, mid_eq1, mid_eq2, mid_eq3, List.length_map, List.length_set] <;> omega) | (simp (disch := omega) only [wrap_small, mid_eq, mid_eq1, mid_eq2, mid_eq3, List.length_map, List.length_set] at * <;> omega)), by (first | omega | (dsimp only <;> omega) | (simp (disch := omega) only [wrap_small, mid_eq, mid_eq1, mid_eq2, mid_eq3, List.length_map, List.length_set] <;> omega) | (simp (disch := omega) only [wrap_small, mid_eq, mid_eq1, mid_eq2, mid_eq3, List.length_map, List.length_set] at * <;> omega))⟩, by (first | omega | (dsimp only <;> omega) | (simp (disch := omega) only [wrap_small, mid_eq, mid_eq1, mid_eq2, mid_eq3, List.length_map, List.length_set] <;> omega) | (simp (disch := omega) only [wrap_small, mid_eq, mid_eq1, mid_eq2, mid_eq3, List.length_map, List.length_set] at * <;> omega))⟩; (show Sz _ p0.length _); dsimp only; rw [e_slices_swapRangeCmpFunc_Trail_c_impl_OpenTrails_1_z]; exact sz_swap (N := p0.length) hI1.1 (by (first | omega | (dsimp only <;> omega) | (simp (disch := omega) only [wrap_small, mid_eq, mid_eq1, mid_eq2, mid_eq3, List.length_map, List.length_set] <;> omega) | (simp (disch := omega) only [wrap_small, mid_eq, mid_eq1, mid_eq2, mid_eq3, List.length_map, List.length_set] at * <;> omega))) (by (first | omega | (dsimp only <;> omega) | (simp (disch := omega) only [wrap_small, mid_eq, mid_eq1, mid_eq2, mid_eq3, List.length_map, List.length_set] <;> omega) | (simp (disch := omega) only [wrap_small, mid_eq, mid_eq1, mid_eq2, mid_eq3, List.length_map, List.length_set] at * <;> omega))) (by (first | omega | (dsimp only <;> omega) | (simp (disch := omega) only [wrap_small, mid_eq, mid_eq1, mid_eq2, mid_eq3, List.length_map, List.length_set] <;> omega) | (simp (disch := omega) only [wrap_small, mid_eq, mid_eq1, mid_eq2, mid_eq3, List.length_map, List.length_set] at * <;> omega))) (by (first | omega | (dsimp only <;> omega) | (simp (disch := omega) only [wrap_small, mid_eq, mid_eq1, mid_eq2, mid_eq3, List.length_map, List.length_set] <;> omega) | (simp (disch := omega) only [wrap_small, mid_eq, mid_eq1, mid_eq2, mid_eq3, List.length_map, List.length_set] at * <;> omega))) (by (first | omega | (dsimp only <;> omega) | (simp (disch := omega) only [wrap_small, mid_eq, mid_eq1, mid_eq2, mid_eq3, List.length_map, List.length_set] <;> omega) | (simp (disch := omega) only [wrap_small, mid_eq, mid_eq1, mid_eq2, mid_eq3, List.length_map, List.length_set] at * <;> omega))) (by omega)) [none, some 1] ⟨rfl, ⟨rfl, rfl, ⟨rfl, rfl, rfl, rfl, by (first | rfl | omega | (dsimp only; omega) | (simp; done) | (simp; omega) | (simp [LstSt.init, LstSt.step, LstInv.init, CntSt.init, CntSt.step, CntInv.init, WhlSt.init, WhlSt.step]; done) | (simp [LstSt.init, LstSt.step, LstInv.init, CntSt.init, CntSt.step, CntInv.init, WhlSt.init, WhlSt.step]; omega))⟩, rfl, ⟨rfl, trivial⟩, trivial⟩, ⟨⟨rfl, rfl, rfl⟩, trivial⟩, ⟨⟨rfl, rfl, rfl, rfl, by (first | rfl | omega | (dsimp only; omega) | (simp; done) | (simp; omega) | (simp [LstSt.init, LstSt.step, LstInv.init, CntSt.init, CntSt.step, CntInv.init, WhlSt.init, WhlSt.step]; done) | (simp [LstSt.init, LstSt.step, LstInv.init, CntSt.init, CntSt.step, CntInv.init, WhlSt.init, WhlSt.step]; omega))⟩, trivial⟩⟩
  · have hg := finE hg (x1.outS hb1)
    refine .inr ⟨0, _, _, _, c_slices_swapRangeCmpFunc_Trail_c_impl_OpenTrails_1_z x1.s.1 (IntKind.i64.wrap (p2 - x1.s.2.1)) p2 x1.s.2.1 (by exact ⟨⟨hI1.1.1, by (first | omega | (dsimp only <;> omega) | (simp (disch := omega) only [wrap_small, mid_eq, mid_eq1, mid_eq2, mid_eq3, List.length_map, List.length_set] <;> omega) | (simp (disch := omega) only [wrap_small, mid_eq, mid_eq1, mid_eq2, mid_eq3, List.length_map, List.length_set] at * <;> omega))⟩, ⟨by (first | omega | (dsimp only <;> omega) | (simp (disch := omega) only [wrap_small, mid_eq, mid_eq1, mid_eq2, mid_eq3, List.length_map, List.length_set] <;> omega) | (simp (disch := omega) only [wrap_small, mid_eq, mid_eq1, mid_eq2, mid_eq3, List.length_map, List.length_set] at * <;> omega)), by (first | omega | (dsimp only <;> omega) | (simp (disch := omega) only [wrap_small, mid_eq, mid_eq1, mid_eq2, mid_eq3, List.length_map, List.length_set] <;> omega) | (simp (disch := omega) only [wrap_small, mid_eq, mid_eq1, mid_eq2, mid_eq3, List.length_map, List.length_set] at * <;> omega)), by (first | omega | (dsimp only <;> omega) | (simp (disch := omega) only [wrap_small, mid_eq, mid_eq1, mid_eq2, mid_eq3, List.length_map, List.length_set] <;> omega) | (simp (disch := omega) only [wrap_small, mid_eq, mid_eq1, mid_eq2, mid_eq3, List.length_map, List.length_set] at * <;> omega))⟩, by (first | omega | (dsimp only <;> omega) | (simp (disch := omega) only [wrap_small, mid_eq, mid_eq1, mid_eq2, mid_eq3, List.length_map, List.length_set] <;> omega) | (simp (disch := omega) only [wrap_small, mid_eq, mid_eq1, mid_eq2, mid_eq3, List.length_map, List.length_set] at * <;> omega)), by (first | omega | (dsimp only <;> omega) | (simp (disch := omega) only [wrap_small, mid_eq, mid_eq1, mid_eq2, mid_eq3, List.length_map, List.length_set] <;> omega) | (simp (disch := omega) only [wrap_small, mid_eq, mid_eq1, mid_eq2, mid_eq3, List.length_map, List.length_set] at * <;> omega))⟩), (FzAs.same _), .inl ?_⟩
    refine litE (m := 3) rfl ?_
    have hz5 := len_slices_swapRangeCmpFunc_Trail_c_impl_OpenTrails_1_z x1.s.1 (IntKind.i64.wrap (p2 - x1.s.2.1)) p2 x1.s.2.1
    exact leafM hown hg
def slices_symMergeCmpFunc_Trail_c_impl_OpenTrails_1_z_b2 (p1 : Int) (i2 : Nat) (s2 : (List Trail)) : Step ((List Trail)) (List Trail) :=
  (.next (List.set (List.set s2 ((p1 + ((i2 : Nat) : Int))).toNat (s2[((IntKind.i64.wrap ((p1 + ((i2 : Nat) : Int)) + 1))).toNat]?.getD default)) ((IntKind.i64.wrap ((p1 + ((i2 : Nat) : Int)) + 1))).toNat (s2[((p1 + ((i2 : Nat) : Int))).toNat]?.getD default)))
def slices_symMergeCmpFunc_Trail_c_impl_OpenTrails_1_z_b1 (p0 : (List Trail)) (p1 : Int) (s1 : Int × Int) : Step (Int × Int) (List Trail) :=
  (bif (decide (s1.1 < s1.2)) then (bif (decide ((impl_OpenTrails_1 (p0[((IntKind.i64.wrap (iShr .u64 (IntKind.u64.wrap (IntKind.i64.wrap (s1.1 + s1.2))) 1))).toNat]?.getD default) (p0[(p1).toNat]?.getD default)) < 0)) then (.next ((IntKind.i64.wrap ((IntKind.i64.wrap (iShr .u64 (IntKind.u64.wrap (IntKind.i64.wrap (s1.1 + s1.2))) 1)) + 1)), s1.2)) else (.next (s1.1, (IntKind.i64.wrap (iShr .u64 (IntKind.u64.wrap (IntKind.i64.wrap (s1.1 + s1.2))) 1))))) else (.stop (s1.1, s1.2)))
def slices_symMergeCmpFunc_Trail_c_impl_OpenTrails_1_z_b4 (s3 : Int × Int) (s4 : (List Trail) × Int) : Step ((List Trail) × Int) (List Trail) :=
  (bif (decide (s4.2 > s3.1)) then (.next ((List.set (List.set s4.1 (s4.2).toNat (s4.1[((IntKind.i64.wrap (s4.2 - 1))).toNat]?.getD default)) ((IntKind.i64.wrap (s4.2 - 1))).toNat (s4.1[(s4.2).toNat]?.getD default)), (IntKind.i64.wrap (s4.2 - 1)))) else (.stop (s4.1, s4.2)))
def slices_symMergeCmpFunc_Trail_c_impl_OpenTrails_1_z_b3 (p0 : (List Trail)) (p2 : Int) (s3 : Int × Int) : Step (Int × Int) (List Trail) :=
  (bif (decide (s3.1 < s3.2)) then (bif (!(decide ((impl_OpenTrails_1 (p0[(p2).toNat]?.getD default) (p0[((IntKind.i64.wrap (iShr .u64 (IntKind.u64.wrap (IntKind.i64.wrap (s3.1 + s3.2))) 1))).toNat]?.getD default)) < 0))) then (.next ((IntKind.i64.wrap ((IntKind.i64.wrap (iShr .u64 (IntKind.u64.wrap (IntKind.i64.wrap (s3.1 + s3.2))) 1)) + 1)), s3.2)) else (.next (s3.1, (IntKind.i64.wrap (iShr .u64 (IntKind.u64.wrap (IntKind.i64.wrap (s3.1 + s3.2))) 1))))) else (.stop (s3.1, s3.2)))
def slices_symMergeCmpFunc_Trail_c_impl_OpenTrails_1_z_j5 (p2 : Int) (p1 : Int) (p3 : Int) : Step (Int × Int) (List Trail) :=
  (bif (decide (p2 > (IntKind.i64.wrap (iShr .u64 (IntKind.u64.wrap (IntKind.i64.wrap (p1 + p3))) 1)))) then (.next ((IntKind.i64.wrap ((IntKind.i64.wrap ((IntKind.i64.wrap (iShr .u64 (IntKind.u64.wrap (IntKind.i64.wrap (p1 + p3))) 1)) + p2)) - p3)), (IntKind.i64.wrap (iShr .u64 (IntKind.u64.wrap (IntKind.i64.wrap (p1 + p3))) 1)))) else (.next (p1, p2)))
def slices_symMergeCmpFunc_Trail_c_impl_OpenTrails_1_z_j7 (s6 : Int × Int) (p2 : Int) (p1 : Int) (p3 : Int) (p0 : (List Trail)) : Step ((List Trail)) (List Trail) :=
  (bif (decide (s6.1 < p2)) then (bif (decide (p2 < (IntKind.i64.wrap ((IntKind.i64.wrap ((IntKind.i64.wrap (iShr .u64 (IntKind.u64.wrap (IntKind.i64.wrap (p1 + p3))) 1)) + p2)) - s6.1)))) then (.next (slices_rotateCmpFunc_Trail_c_impl_OpenTrails_1_z p0 s6.1 p2 (IntKind.i64.wrap ((IntKind.i64.wrap ((IntKind.i64.wrap (iShr .u64 (IntKind.u64.wrap (IntKind.i64.wrap (p1 + p3))) 1)) + p2)) - s6.1)))) else (.next p0)) else (.next p0))
def slices_symMergeCmpFunc_Trail_c_impl_OpenTrails_1_z_j8 (r0 : (((List Trail)) → (Int) → (Int) → (Int) → ((List Trail)))) (p1 : Int) (s6 : Int × Int) (p3 : Int) (s7 : (List Trail)) : Step ((List Trail)) (List Trail) :=
  (bif (decide (p1 < s6.1)) then (bif (decide (s6.1 < (IntKind.i64.wrap (iShr .u64 (IntKind.u64.wrap (IntKind.i64.wrap (p1 + p3))) 1)))) then (.next (r0 s7 p1 s6.1 (IntKind.i64.wrap (iShr .u64 (IntKind.u64.wrap (IntKind.i64.wrap (p1 + p3))) 1)))) else (.next s7)) else (.next s7))
def slices_symMergeCmpFunc_Trail_c_impl_OpenTrails_1_z_b6 (p0 : (List Trail)) (p1 : Int) (p3 : Int) (p2 : Int) (s6 : Int × Int) : Step (Int × Int) (List Trail) :=
  (bif (decide (s6.1 < s6.2)) then (bif (!(decide ((impl_OpenTrails_1 (p0[((IntKind.i64.wrap ((IntKind.i64.wrap ((IntKind.i64.wrap ((IntKind.i64.wrap (iShr .u64 (IntKind.u64.wrap (IntKind.i64.wrap (p1 + p3))) 1)) + p2)) - 1)) - (IntKind.i64.wrap (iShr .u64 (IntKind.u64.wrap (IntKind.i64.wrap (s6.1 + s6.2))) 1))))).toNat]?.getD default) (p0[((IntKind.i64.wrap (iShr .u64 (IntKind.u64.wrap (IntKind.i64.wrap (s6.1 + s6.2))) 1))).toNat]?.getD default)) < 0))) then (.next ((IntKind.i64.wrap ((IntKind.i64.wrap (iShr .u64 (IntKind.u64.wrap (IntKind.i64.wrap (s6.1 + s6.2))) 1)) + 1)), s6.2)) else (.next (s6.1, (IntKind.i64.wrap (iShr .u64 (IntKind.u64.wrap (IntKind.i64.wrap (s6.1 + s6.2))) 1))))) else (.stop (s6.1, s6.2)))
def slices_symMergeCmpFunc_Trail_c_impl_OpenTrails_1_zR : Nat → ((List Trail)) → (Int) → (Int) → (Int) → ((List Trail))
  | 0, p0, _, _, _ => p0
  | n + 1, p0, p1, p2, p3 => (bif ((IntKind.i64.wrap (p2 - p1)) == 1) then (Fin.get (fun s1 => (Fin.get (fun s2 => s2) (loopC (slices_symMergeCmpFunc_Trail_c_impl_OpenTrails_1_z_b2 p1) 0 p0 (((IntKind.i64.wrap (s1.1 - 1)) - p1)).toNat))) (loopW (slices_symMergeCmpFunc_Trail_c_impl_OpenTrails_1_z_b1 p0 p1) ((fun s : Int × Int => (s.2 - s.1).toNat) (p2, p3)) (p2, p3))) else (bif ((IntKind.i64.wrap (p3 - p2)) == 1) then (Fin.get (fun s3 => (Fin.get (fun s4 => s4.1) (loopW (slices_symMergeCmpFunc_Trail_c_impl_OpenTrails_1_z_b4 s3) ((fun s : (List Trail) × Int => (s.2 - s3.1).toNat) (p0, p2)) (p0, p2)))) (loopW (slices_symMergeCmpFunc_Trail_c_impl_OpenTrails_1_z_b3 p0 p2) ((fun s : Int × Int => (s.2 - s.1).toNat) (p1, p2)) (p1, p2))) else (Step.get (fun s5 => (Fin.get (fun s6 => (Step.get (fun s7 => (Step.get (fun s8 => (bif (decide ((IntKind.i64.wrap (iShr .u64 (IntKind.u64.wrap (IntKind.i64.wrap (p1 + p3))) 1)) < (IntKind.i64.wrap ((IntKind.i64.wrap ((IntKind.i64.wrap (iShr .u64 (IntKind.u64.wrap (IntKind.i64.wrap (p1 + p3))) 1)) + p2)) - s6.1)))) then (bif (decide ((IntKind.i64.wrap ((IntKind.i64.wrap ((IntKind.i64.wrap (iShr .u64 (IntKind.u64.wrap (IntKind.i64.wrap (p1 + p3))) 1)) + p2)) - s6.1)) < p3)) then ((slices_symMergeCmpFunc_Trail_c_impl_OpenTrails_1_zR n) s8 (IntKind.i64.wrap (iShr .u64 (IntKind.u64.wrap (IntKind.i64.wrap (p1 + p3))) 1)) (IntKind.i64.wrap ((IntKind.i64.wrap ((IntKind.i64.wrap (iShr .u64 (IntKind.u64.wrap (IntKind.i64.wrap (p1 + p3))) 1)) + p2)) - s6.1)) p3) else s8) else s8)) (slices_symMergeCmpFunc_Trail_c_impl_OpenTrails_1_z_j8 (slices_symMergeCmpFunc_Trail_c_impl_OpenTrails_1_zR n) p1 s6 p3 s7))) (slices_symMergeCmpFunc_Trail_c_impl_OpenTrails_1_z_j7 s6 p2 p1 p3 p0))) (loopW (slices_symMergeCmpFunc_Trail_c_impl_OpenTrails_1_z_b6 p0 p1 p3 p2) ((fun s : Int × Int => (s.2 - s.1).toNat) (s5.1, s5.2)) (s5.1, s5.2)))) (slices_symMergeCmpFunc_Trail_c_impl_OpenTrails_1_z_j5 p2 p1 p3))))
theorem e_slices_symMergeCmpFunc_Trail_c_impl_OpenTrails_1_zR : ∀ (n : Nat) (p0 : List Trail) (p1 p2 p3 : Int), slices_symMergeCmpFunc_Trail_c_impl_OpenTrails_1_zR n p0 p1 p2 p3 = g_symMergeR n p0 p1 p2 p3 impl_OpenTrails_1 := by
  intro n
  induction n with
  | zero => intros; rfl
  | succ n ih =>
    intro p0 p1 p2 p3
    have h8 : ∀ (s6 : Int × Int) (s7 : List Trail), slices_symMergeCmpFunc_Trail_c_impl_OpenTrails_1_z_j8 (slices_symMergeCmpFunc_Trail_c_impl_OpenTrails_1_zR n) p1 s6 p3 s7 = g_symMerge_j8 (g_symMergeR n) p1 s6 p3 s7 impl_OpenTrails_1 := by
      intro s6 s7
      unfold slices_symMergeCmpFunc_Trail_c_impl_OpenTrails_1_z_j8 g_symMerge_j8
      simp only [ih]
    rw [slices_symMergeCmpFunc_Trail_c_impl_OpenTrails_1_zR.eq_2, g_symMergeR.eq_2]
    simp only [ih, h8]
    rfl
theorem len_slices_symMergeCmpFunc_Trail_c_impl_OpenTrails_1_zR (n : Nat) (p0 : List Trail) (p1 p2 p3 : Int) : (slices_symMergeCmpFunc_Trail_c_impl_OpenTrails_1_zR n p0 p1 p2 p3).length = p0.length := by rw [e_slices_symMergeCmpFunc_Trail_c_impl_OpenTrails_1_zR]; exact len_g_symR ..
theorem cR_slices_symMergeCmpFunc_Trail_c_impl_OpenTrails_1_z : ∀ (n : Nat) (p0 : (List Trail)) (p1 : Int) (p2 : Int) (p3 : Int), (p3 - p1).toNat < n → (Srt (fun _ => True) p0 ∧ p0.length ≤ 288230376151711744) ∧ 0 ≤ p1 ∧ p1 < p2 ∧ p2 < p3 ∧ p3 ≤ ((p0.length : Nat) : Int) → FnOk prog 130 [.tup [.one (.s true 4 (List.map (Trail.cells false) p0))], .one (.v (.int .i64 p1)), .one (.v (.int .i64 p2)), .one (.v (.int .i64 p3)), .one (.c 84 [])] ⟨.tup [], [.one (.s true 4 (List.map (Trail.cells false) ((slices_symMergeCmpFunc_Trail_c_impl_OpenTrails_1_zR n p0 p1 p2 p3))))], [], false⟩ := by
  intro n
  induction n with
  | zero => intro p0 p1 p2 p3 hd0; omega
  | succ n ih =>
    intro p0 p1 p2 p3 hd0 hs
    refine FnOk.introM (E := env) envOk wide func130 rfl (by kernel_rfl) rfl ?_
    have hg : slices_symMergeCmpFunc_Trail_c_impl_OpenTrails_1_zR (n + 1) p0 p1 p2 p3 = _ := slices_symMergeCmpFunc_Trail_c_impl_OpenTrails_1_zR.eq_2 ..
    have hown : (∀ g : (List Trail), AV.Own (AV.tup [])) ∧ (fun g : (List Trail) => T.s true 4 (List.map (Trail.cells false) (g))) = _ := ⟨fun g => trivial, rfl⟩
    refine seqE ?_
    refine seqE ?_
    refine brQ hg (fun hg h1 => ?_) (fun hg h1 => ?_)
    · refine seqE ?_
      refine seqE ?_
      refine seqE ?_
      refine loopWE (m := (fun s : Int × Int => (s.2 - s.1).toNat)) (s0 := (p2, p3)) (fun s : Int × Int => p2 ≤ s.1 ∧ s.1 ≤ s.2 ∧ s.2 ≤ p3) hg (by exact ⟨by (first | omega | (dsimp only <;> omega) | (simp (disch := omega) only [wrap_small, mid_eq, mid_eq1, mid_eq2, mid_eq3, List.length_map, List.length_set] <;> omega) | (simp (disch := omega) only [wrap_small, mid_eq, mid_eq1, mid_eq2, mid_eq3, List.length_map, List.length_set] at * <;> omega)), by (first | omega | (dsimp only <;> omega) | (simp (disch := omega) only [wrap_small, mid_eq, mid_eq1, mid_eq2, mid_eq3, List.length_map, List.length_set] <;> omega) | (simp (disch := omega) only [wrap_small, mid_eq, mid_eq1, mid_eq2, mid_eq3, List.length_map, List.length_set] at * <;> omega)), by (first | omega | (dsimp only <;> omega) | (simp (disch := omega) only [wrap_small, mid_eq, mid_eq1, mid_eq2, mid_eq3, List.length_map, List.length_set] <;> omega) | (simp (disch := omega) only [wrap_small, mid_eq, mid_eq1, mid_eq2, mid_eq3, List.length_map, List.length_set] at * <;> omega))⟩) [0, 1, 4] (fun x1 => [(10, .one (.v (.int .i64 x1.s.1))), (11, .one (.v (.int .i64 x1.s.2)))]) (fun x1 => [.dead, .keep 1]) [none, some 1] ?_ (fun x1 => ?_)
      · exact ⟨rfl, ⟨rfl, rfl, ⟨rfl, rfl, rfl, rfl, by (first | rfl | omega | (dsimp only; omega) | (simp; done) | (simp; omega) | (simp [LstSt.init, LstSt.step, LstInv.init, CntSt.init, CntSt.step, CntInv.init, WhlSt.init, WhlSt.step]; done) | (simp [LstSt.init, LstSt.step, LstInv.init, CntSt.init, CntSt.step, CntInv.init, WhlSt.init, WhlSt.step]; omega))⟩, rfl, ⟨rfl, trivial⟩, trivial⟩, ⟨⟨rfl, rfl, rfl⟩, trivial⟩, ⟨⟨rfl, rfl, rfl, rfl, by (first | rfl | omega | (dsimp only; omega) | (simp; done) | (simp; omega) | (simp [LstSt.init, LstSt.step, LstInv.init, CntSt.init, CntSt.step, CntInv.init, WhlSt.init, WhlSt.step]; done) | (simp [LstSt.init, LstSt.step, LstInv.init, CntSt.init, CntSt.step, CntInv.init, WhlSt.init, WhlSt.step]; omega))⟩, trivial⟩⟩
      have hI1 := x1.hI
      try dsimp only at hI1
      have hb1 := x1.bdy.trans (slices_symMergeCmpFunc_Trail_c_impl_OpenTrails_1_z_b1.eq_1 ..)
      refine seqE ?_
      refine seqE ?_
      refine brD hb1 (fun hb1 h2 => ?_) (fun hb1 h2 => ?_)
      · refine seqE ?_
        refine andE (by (first | omega | (simp (disch := omega) only [wrap_small, mid_eq, List.length_map]; omega) | (simp; done) | (simp; omega) | (simp at *; omega) | (simp at *; done) | (simp_all; done) | (simp_all; omega))) ?_
        refine seqE ?_
        refine .inl ⟨by kernel_rfl, ?_⟩
        refine andE (by (first | omega | (dsimp only <;> omega) | (simp (disch := omega) only [wrap_small, mid_eq, mid_eq1, mid_eq2, mid_eq3, List.length_map, List.length_set] <;> omega) | (simp (disch := omega) only [wrap_small, mid_eq, mid_eq1, mid_eq2, mid_eq3, List.length_map, List.length_set] at * <;> omega))) ?_
        refine rowGet (i := ((IntKind.i64.wrap (iShr .u64 (IntKind.u64.wrap (IntKind.i64.wrap (x1.s.1 + x1.s.2))) 1))).toNat) (l := p0) (by first | rfl | exact Nat.zero_add _ | simp) (fun hq3 => ?_)
        refine andE (by (first | omega | (dsimp only <;> omega) | (simp (disch := omega) only [wrap_small, mid_eq, mid_eq1, mid_eq2, mid_eq3, List.length_map, List.length_set] <;> omega) | (simp (disch := omega) only [wrap_small, mid_eq, mid_eq1, mid_eq2, mid_eq3, List.length_map, List.length_set] at * <;> omega))) ?_
        refine rowGet (i := (p1).toNat) (l := p0) (by first | rfl | exact Nat.zero_add _ | simp) (fun hq4 => ?_)
        refine ⟨_, _, c_impl_OpenTrails_1 (p0[((IntKind.i64.wrap (iShr .u64 (IntKind.u64.wrap (IntKind.i64.wrap (x1.s.1 + x1.s.2))) 1))).toNat]?.getD default) (p0[(p1).toNat]?.getD default), (FzAs.same _), ?_⟩
        exact brD hb1 (fun hb1 h5 => x1.goE hb1 (show (fun s : Int × Int => p2 ≤ s.1 ∧ s.1 ≤ s.2 ∧ s.2 ≤ p3) ((IntKind.i64.wrap ((IntKind.i64.wrap (iShr .u64 (IntKind.u64.wrap (IntKind.i64.wrap (x1.s.1 + x1.s.2))) 1)) + 1)), x1.s.2) ∧ (fun s : Int × Int => (s.2 - s.1).toNat) ((IntKind.i64.wrap ((IntKind.i64.wrap (iShr .u64 (IntKind.u64.wrap (IntKind.i64.wrap (x1.s.1 + x1.s.2))) 1)) + 1)), x1.s.2) < (fun s : Int × Int => (s.2 - s.1).toNat) x1.s by exact ⟨⟨by (first | omega | (dsimp only <;> omega) | (simp (disch := omega) only [wrap_small, mid_eq, mid_eq1, mid_eq2, mid_eq3, List.length_map, List.length_set] <;> omega) | (simp (disch := omega) only [wrap_small, mid_eq, mid_eq1, mid_eq2, mid_eq3, List.length_map, List.length_set] at * <;> omega)), by (first | omega | (dsimp only <;> omega) | (simp (disch := omega) only [wrap_small, mid_eq, mid_eq1, mid_eq2, mid_eq3, List.length_map, List.length_set] <;> omega) | (simp (disch := omega) only [wrap_small, mid_eq, mid_eq1, mid_eq2, mid_eq3, List.length_map, List.length_set] at * <;> omega)), by (first | omega | (dsimp only <;> omega) | (simp (disch := omega) only [wrap_small, mid_eq, mid_eq1, mid_eq2, mid_eq3, List.length_map, List.length_set] <;> omega) | (simp (disch := omega) only [wrap_small, mid_eq, mid_eq1, mid_eq2, mid_eq3, List.length_map, List.length_set] at * <;> omega))⟩, by (first | omega | (dsimp only <;> omega) | (simp (disch := omega) only [wrap_small, mid_eq, mid_eq1, mid_eq2, mid_eq3, List.length_map, List.length_set] <;> omega) | (simp (disch := omega) only [wrap_small, mid_eq, mid_eq1, mid_eq2, mid_eq3, List.length_map, List.length_set] at * <;> omega))⟩) [none, some 1] ⟨rfl, ⟨rfl, rfl, ⟨rfl, rfl, rfl, rfl, by (first | rfl | omega | (dsimp only; omega) | (simp; done) | (simp; omega) | (simp [LstSt.init, LstSt.step, LstInv.init, CntSt.init, CntSt.step, CntInv.init, WhlSt.init, WhlSt.step]; done) | (simp [LstSt.init, LstSt.step, LstInv.init, CntSt.init, CntSt.step, CntInv.init, WhlSt.init, WhlSt.step]; omega))⟩, rfl, ⟨rfl, trivial⟩, trivial⟩, ⟨⟨rfl, rfl, rfl⟩, trivial⟩, ⟨⟨rfl, rfl, rfl, rfl, by (first | rfl | omega | (dsimp only; omega) | (simp; done) | (simp; omega) | (simp [LstSt.init, LstSt.step, LstInv.init, CntSt.init, CntSt.step, CntInv.init, WhlSt.init, WhlSt.step]; done) | (simp [LstSt.init, LstSt.step, LstInv.init, CntSt.init, CntSt.step, CntInv.init, WhlSt.init, WhlSt.step]; omega))⟩, trivial⟩⟩) (fun hb1 h5 => x1.goE hb1 (show (fun s : Int × Int => p2 ≤ s.1 ∧ s.1 ≤ s.2 ∧ s.2 ≤ p3) (x1.s.1, (IntKind.i64.wrap (iShr .u64 (IntKind.u64.wrap (IntKind.i64.wrap (x1.s.1 + x1.s.2))) 1))) ∧ (fun s : Int × Int => (s.2 - s.1).toNat) (x1.s.1, (IntKind.i64.wrap (iShr .u64 (IntKind.u64.wrap (IntKind.i64.wrap (x1.s.1 + x1.s.2))) 1))) < (fun s : Int × Int => (s.2 - s.1).toNat) x1.s by exact ⟨⟨by (first | omega | (dsimp only <;> omega) | (simp (disch := omega) only [wrap_small, mid_eq, mid_eq1, mid_eq2, mid_eq3, List.length_map, List.length_set] <;> omega) | (simp (disch := omega) only [wrap_small, mid_eq, mid_eq1, mid_eq2, mid_eq3, List.length_map, List.length_set] at * <;> omega)), by (first | omega | (dsimp only <;> omega) | (simp (disch := omega) only [wrap_small, mid_eq, mid_eq1, mid_eq2, mid_eq3, List.length_map, List.length_set] <;> omega) | (simp (disch := omega) only [wrap_small, mid_eq, mid_eq1, mid_eq2, mid_eq3, List.length_map, List.length_set] at * <;> omega)), by (first | omega | (dsimp only <;> omega) | (simp (disch := omega) only [wrap_small, mid_eq, mid_eq1, mid_eq2, mid_eq3, List.length_map, List.length_set] <;> omega) | (simp (disch := omega) only [wrap_small, mid_eq, mid_eq1, mid_eq2, mid_eq3, List.length_map, List.length_set] at * <;> omega))⟩, by (first | omega | (dsimp only <;> omega) | (simp (disch := omega) only [wrap_small, mid_eq, mid_eq1, mid_eq2, mid_eq3, List.length_map, List.length_set] <;> omega) | (simp (disch := omega) only [wrap_small, mid_eq, mid_eq1, mid_eq2, mid_eq3, List.length_map, List.length_set] at * <;> omega))⟩) [none, some 1] ⟨rfl, ⟨rfl, rfl, ⟨rfl, rfl, rfl, rfl, by (first | rfl | omega | (dsimp only; omega) | (simp; done) | (simp; omega) | (simp [LstSt.init, LstSt.step, LstInv.init, CntSt.init, CntSt.step, CntInv.init, WhlSt.init, WhlSt.step]; done) | (simp [LstSt.init, LstSt.step, LstInv.init, CntSt.init, CntSt.step, CntInv.init, WhlSt.init, WhlSt.step]; omega))⟩, rfl, ⟨rfl, trivial⟩, trivial⟩, ⟨⟨rfl, rfl, rfl⟩, trivial⟩, ⟨⟨rfl, rfl, rfl, rfl, by (first | rfl | omega | (dsimp only; omega) | (simp; done) | (simp; omega) | (simp [LstSt.init, LstSt.step, LstInv.init, CntSt.init, CntSt.step, CntInv.init, WhlSt.init, WhlSt.step]; done) | (simp [LstSt.init, LstSt.step, LstInv.init, CntSt.init, CntSt.step, CntInv.init, WhlSt.init, WhlSt.step]; omega))⟩, trivial⟩⟩)
      · have hg := finE hg (x1.outS hb1)
        refine seqE ?_
        refine seqE ?_
        refine loopCI (fun _ s => (Srt (fun _ => True) s ∧ s.length = p0.length)) hg (⟨hs.1.1, rfl⟩) [0, 10] (fun x2 => [(13, .one (.v (.int .i64 (p1 + ((x2.i : Nat) : Int)))))]) (fun x2 => [.dead, .new ⟨4, false, List.map (Trail.cells false) x2.s, 0⟩]) [none, some 1] ?_ (fun x2 => ?_)
        · exact ⟨rfl, ⟨(eqInt (Int.add_zero _).symm), ⟨rfl, rfl, rfl, rfl, by (first | rfl | omega | (dsimp only; omega) | (simp; done) | (simp; omega) | (simp [LstSt.init, LstSt.step, LstInv.init, CntSt.init, CntSt.step, CntInv.init, WhlSt.init, WhlSt.step]; done) | (simp [LstSt.init, LstSt.step, LstInv.init, CntSt.init, CntSt.step, CntInv.init, WhlSt.init, WhlSt.step]; omega))⟩, rfl, trivial⟩, ⟨⟨rfl, rfl, rfl⟩, trivial⟩, ⟨⟨rfl, rfl, rfl, rfl, by (first | rfl | omega | (dsimp only; omega) | (simp; done) | (simp; omega) | (simp [LstSt.init, LstSt.step, LstInv.init, CntSt.init, CntSt.step, CntInv.init, WhlSt.init, WhlSt.step]; done) | (simp [LstSt.init, LstSt.step, LstInv.init, CntSt.init, CntSt.step, CntInv.init, WhlSt.init, WhlSt.step]; omega))⟩, trivial⟩⟩
        have hI2 := x2.hI
        try dsimp only at hI2
        refine seqE ?_
        refine seqE ?_
        refine tstB (fun hi2 => ?_) (fun hi2 => ?_)
        · have hb2 := (x2.bdy hi2).trans (slices_symMergeCmpFunc_Trail_c_impl_OpenTrails_1_z_b2.eq_1 ..)
          have hw2 := wrapB hi2
          refine seqE ?_
          refine .inr (.inr (.inr ⟨(.q 0 (.q 1 (.q 2 (.q 3 (.q 4 (.q 5 (.q 6 (.q 7 (.q 8 (.q 10 (.q 11 (.q 12 (.b 9 (.o 13 (.o 14 (.o 15 (.o 16 (.o 17 .leaf))))) 13 (.o 9 (.o 14 (.o 15 (.o 16 (.o 17 .leaf)))))))))))))))))), by kernel_rfl, ?_⟩))
          refine andE (by (first | omega | (dsimp only <;> omega) | (simp (disch := omega) only [wrap_small, mid_eq, mid_eq1, mid_eq2, mid_eq3, List.length_map, List.length_set] <;> omega) | (simp (disch := omega) only [wrap_small, mid_eq, mid_eq1, mid_eq2, mid_eq3, List.length_map, List.length_set] at * <;> omega))) ?_
          refine andE (by (first | omega | (dsimp only <;> omega) | (simp (disch := omega) only [wrap_small, mid_eq, mid_eq1, mid_eq2, mid_eq3, List.length_map, List.length_set] <;> omega) | (simp (disch := omega) only [wrap_small, mid_eq, mid_eq1, mid_eq2, mid_eq3, List.length_map, List.length_set] at * <;> omega))) ?_
          refine And.intro ?_ ?_
          · refine rowGet (i := ((IntKind.i64.wrap ((p1 + ((x2.i : Nat) : Int)) + 1))).toNat) (l := x2.s) (by first | rfl | exact Nat.zero_add _ | simp) (fun hq6 => ?_)
            refine rowGet (i := ((p1 + ((x2.i : Nat) : Int))).toNat) (l := x2.s) (by first | rfl | exact Nat.zero_add _ | simp) (fun hq7 => ?_)
            refine andE (by (first | omega | (dsimp only <;> omega) | (simp (disch := omega) only [wrap_small, mid_eq, mid_eq1, mid_eq2, mid_eq3, List.length_map, List.length_set] <;> omega) | (simp (disch := omega) only [wrap_small, mid_eq, mid_eq1, mid_eq2, mid_eq3, List.length_map, List.length_set] at * <;> omega))) ?_
            refine rowsE (Y := List.map (Trail.cells false) (List.set x2.s ((p1 + ((x2.i : Nat) : Int))).toNat (x2.s[((IntKind.i64.wrap ((p1 + ((x2.i : Nat) : Int)) + 1))).toNat]?.getD default))) (by exact setMapE (by simp) (fun a ha => by first | rfl | (simp only [ha, Option.getD_some]; rfl) | (obtain ⟨_, rfl⟩ := List.getElem?_eq_some_iff.1 ha; rfl) | (simp only [Pol.cells_eq]; rfl) | (simp only [ha, Option.getD_some, Pol.cells_eq]; rfl))) ?_
            refine andE (by (first | omega | (dsimp only <;> omega) | (simp (disch := omega) only [wrap_small, mid_eq, mid_eq1, mid_eq2, mid_eq3, List.length_map, List.length_set] <;> omega) | (simp (disch := omega) only [wrap_small, mid_eq, mid_eq1, mid_eq2, mid_eq3, List.length_map, List.length_set] at * <;> omega))) ?_
            refine rowsE (Y := List.map (Trail.cells false) (List.set (List.set x2.s ((p1 + ((x2.i : Nat) : Int))).toNat (x2.s[((IntKind.i64.wrap ((p1 + ((x2.i : Nat) : Int)) + 1))).toNat]?.getD default)) ((IntKind.i64.wrap ((p1 + ((x2.i : Nat) : Int)) + 1))).toNat (x2.s[((p1 + ((x2.i : Nat) : Int))).toNat]?.getD default))) (by exact setMapE (by simp) (fun a ha => by first | rfl | (simp only [ha, Option.getD_some]; rfl) | (obtain ⟨_, rfl⟩ := List.getElem?_eq_some_iff.1 ha; rfl) | (simp only [Pol.cells_eq]; rfl) | (simp only [ha, Option.getD_some, Pol.cells_eq]; rfl))) ?_
            exact x2.goE hi2 hb2 (Sz.swp (N := p0.length) hI2 (by (first | omega | (dsimp only <;> omega) | (simp (disch := omega) only [wrap_small, mid_eq, mid_eq1, mid_eq2, mid_eq3, List.length_map, List.length_set] <;> omega) | (simp (disch := omega) only [wrap_small, mid_eq, mid_eq1, mid_eq2, mid_eq3, List.length_map, List.length_set] at * <;> omega))) (by (first | omega | (dsimp only <;> omega) | (simp (disch := omega) only [wrap_small, mid_eq, mid_eq1, mid_eq2, mid_eq3, List.length_map, List.length_set] <;> omega) | (simp (disch := omega) only [wrap_small, mid_eq, mid_eq1, mid_eq2, mid_eq3, List.length_map, List.length_set] at * <;> omega)))) [none, some 1] ⟨rfl, ⟨(eqInt hw2), ⟨rfl, rfl, rfl, rfl, by (first | rfl | omega | (dsimp only; omega) | (simp; done) | (simp; omega) | (simp [LstSt.init, LstSt.step, LstInv.init, CntSt.init, CntSt.step, CntInv.init, WhlSt.init, WhlSt.step]; done) | (simp [LstSt.init, LstSt.step, LstInv.init, CntSt.init, CntSt.step, CntInv.init, WhlSt.init, WhlSt.step]; omega))⟩, rfl, trivial⟩, ⟨⟨rfl, rfl, rfl⟩, trivial⟩, ⟨⟨rfl, rfl, rfl, rfl, by (first | rfl | omega | (dsimp only; omega) | (simp; done) | (simp; omega) | (simp [LstSt.init, LstSt.step, LstInv.init, CntSt.init, CntSt.step, CntInv.init, WhlSt.init, WhlSt.step]; done) | (simp [LstSt.init, LstSt.step, LstInv.init, CntSt.init, CntSt.step, CntInv.init, WhlSt.init, WhlSt.step]; omega))⟩, trivial⟩⟩
          refine rowGet (i := ((p1 + ((x2.i : Nat) : Int))).toNat) (l := x2.s) (by first | rfl | exact Nat.zero_add _ | simp) (fun hq8 => ?_)
          refine rowGet (i := ((IntKind.i64.wrap ((p1 + ((x2.i : Nat) : Int)) + 1))).toNat) (l := x2.s) (by first | rfl | exact Nat.zero_add _ | simp) (fun hq9 => ?_)
          refine andE (by (first | omega | (dsimp only <;> omega) | (simp (disch := omega) only [wrap_small, mid_eq, mid_eq1, mid_eq2, mid_eq3, List.length_map, List.length_set] <;> omega) | (simp (disch := omega) only [wrap_small, mid_eq, mid_eq1, mid_eq2, mid_eq3, List.length_map, List.length_set] at * <;> omega))) ?_
          refine rowsE (Y := List.map (Trail.cells false) (List.set x2.s ((p1 + ((x2.i : Nat) : Int))).toNat (x2.s[((IntKind.i64.wrap ((p1 + ((x2.i : Nat) : Int)) + 1))).toNat]?.getD default))) (by exact setMapE (by simp) (fun a ha => by first | rfl | (simp only [ha, Option.getD_some]; rfl) | (obtain ⟨_, rfl⟩ := List.getElem?_eq_some_iff.1 ha; rfl) | (simp only [Pol.cells_eq]; rfl) | (simp only [ha, Option.getD_some, Pol.cells_eq]; rfl))) ?_
          refine andE (by (first | omega | (dsimp only <;> omega) | (simp (disch := omega) only [wrap_small, mid_eq, mid_eq1, mid_eq2, mid_eq3, List.length_map, List.length_set] <;> omega) | (simp (disch := omega) only [wrap_small, mid_eq, mid_eq1, mid_eq2, mid_eq3, List.length_map, List.length_set] at * <;> omega))) ?_
          refine rowsE (Y := List.map (Trail.cells false) (List.set (List.set x2.s ((p1 + ((x2.i : Nat) : Int))).toNat (x2.s[((IntKind.i64.wrap ((p1 + ((x2.i : Nat) : Int)) + 1))).toNat]?.getD default)) ((IntKind.i64.wrap ((p1 + ((x2.i : Nat) : Int)) + 1))).toNat (x2.s[((p1 + ((x2.i : Nat) : Int))).toNat]?.getD default))) (by exact setMapE (by simp) (fun a ha => by first | rfl | (simp only [ha, Option.getD_some]; rfl) | (obtain ⟨_, rfl⟩ := List.getElem?_eq_some_iff.1 ha; rfl) | (simp only [Pol.cells_eq]; rfl) | (simp only [ha, Option.getD_some, Pol.cells_eq]; rfl))) ?_
          exact x2.goE hi2 hb2 (Sz.swp (N := p0.length) hI2 (by (first | omega | (dsimp only <;> omega) | (simp (disch := omega) only [wrap_small, mid_eq, mid_eq1, mid_eq2, mid_eq3, List.length_map, List.length_set] <;> omega) | (simp (disch := omega) only [wrap_small, mid_eq, mid_eq1, mid_eq2, mid_eq3, List.length_map, List.length_set] at * <;> omega))) (by (first | omega | (dsimp only <;> omega) | (simp (disch := omega) only [wrap_small, mid_eq, mid_eq1, mid_eq2, mid_eq3, List.length_map, List.length_set] <;> omega) | (simp (disch := omega) only [wrap_small, mid_eq, mid_eq1, mid_eq2, mid_eq3, List.length_map, List.length_set] at * <;> omega)))) [none, some 1] ⟨rfl, ⟨(eqInt hw2), ⟨rfl, rfl, rfl, rfl, by (first | rfl | omega | (dsimp only; omega) | (simp; done) | (simp; omega) | (simp [LstSt.init, LstSt.step, LstInv.init, CntSt.init, CntSt.step, CntInv.init, WhlSt.init, WhlSt.step]; done) | (simp [LstSt.init, LstSt.step, LstInv.init, CntSt.init, CntSt.step, CntInv.init, WhlSt.init, WhlSt.step]; omega))⟩, rfl, trivial⟩, ⟨⟨rfl, rfl, rfl⟩, trivial⟩, ⟨⟨rfl, rfl, rfl, rfl, by (first | rfl | omega | (dsimp only; omega) | (simp; done) | (simp; omega) | (simp [LstSt.init, LstSt.step, LstInv.init, CntSt.init, CntSt.step, CntInv.init, WhlSt.init, WhlSt.step]; done) | (simp [LstSt.init, LstSt.step, LstInv.init, CntSt.init, CntSt.step, CntInv.init, WhlSt.init, WhlSt.step]; omega))⟩, trivial⟩⟩
        have hg := finE hg (x2.fin hi2)
        exact leafM hown hg
    · refine seqE ?_
      refine seqE ?_
      refine brQ hg (fun hg h10 => ?_) (fun hg h10 => ?_)
      · refine seqE ?_
        refine seqE ?_
        refine seqE ?_
        refine loopWE (m := (fun s : Int × Int => (s.2 - s.1).toNat)) (s0 := (p1, p2)) (fun s : Int × Int => p1 ≤ s.1 ∧ s.1 ≤ s.2 ∧ s.2 ≤ p2) hg (by exact ⟨by (first | omega | (dsimp only <;> omega) | (simp (disch := omega) only [wrap_small, mid_eq, mid_eq1, mid_eq2, mid_eq3, List.length_map, List.length_set] <;> omega) | (simp (disch := omega) only [wrap_small, mid_eq, mid_eq1, mid_eq2, mid_eq3, List.length_map, List.length_set] at * <;> omega)), by (first | omega | (dsimp only <;> omega) | (simp (disch := omega) only [wrap_small, mid_eq, mid_eq1, mid_eq2, mid_eq3, List.length_map, List.length_set] <;> omega) | (simp (disch := omega) only [wrap_small, mid_eq, mid_eq1, mid_eq2, mid_eq3, List.length_map, List.length_set] at * <;> omega)), by (first | omega | (dsimp only <;> omega) | (simp (disch := omega) only [wrap_small, mid_eq, mid_eq1, mid_eq2, mid_eq3, List.length_map, List.length_set] <;> omega) | (simp (disch := omega) only [wrap_small, mid_eq, mid_eq1, mid_eq2, mid_eq3, List.length_map, List.length_set] at * <;> omega))⟩) [0, 2, 4] (fun x3 => [(14, .one (.v (.int .i64 x3.s.1))), (15, .one (.v (.int .i64 x3.s.2)))]) (fun x3 => [.dead, .keep 1]) [none, some 1] ?_ (fun x3 => ?_)
        · exact ⟨rfl, ⟨rfl, rfl, ⟨rfl, rfl, rfl, rfl, by (first | rfl | omega | (dsimp only; omega) | (simp; done) | (simp; omega) | (simp [LstSt.init, LstSt.step, LstInv.init, CntSt.init, CntSt.step, CntInv.init, WhlSt.init, WhlSt.step]; done) | (simp [LstSt.init, LstSt.step, LstInv.init, CntSt.init, CntSt.step, CntInv.init, WhlSt.init, WhlSt.step]; omega))⟩, rfl, ⟨rfl, trivial⟩, trivial⟩, ⟨⟨rfl, rfl, rfl⟩, trivial⟩, ⟨⟨rfl, rfl, rfl, rfl, by (first | rfl | omega | (dsimp only; omega) | (simp; done) | (simp; omega) | (simp [LstSt.init, LstSt.step, LstInv.init, CntSt.init, CntSt.step, CntInv.init, WhlSt.init, WhlSt.step]; done) | (simp [LstSt.init, LstSt.step, LstInv.init, CntSt.init, CntSt.step, CntInv.init, WhlSt.init, WhlSt.step]; omega))⟩, trivial⟩⟩
        have hI3 := x3.hI
        try dsimp only at hI3
        have hb3 := x3.bdy.trans (slices_symMergeCmpFunc_Trail_c_impl_OpenTrails_1_z_b3.eq_1 ..)
        refine seqE ?_
        refine seqE ?_
        refine brD hb3 (fun hb3 h11 => ?_) (fun hb3 h11 => ?_)
        · refine seqE ?_
          refine andE (by (first | omega | (simp (disch := omega) only [wrap_small, mid_eq, List.length_map]; omega) | (simp; done) | (simp; omega) | (simp at *; omega) | (simp at *; done) | (simp_all; done) | (simp_all; omega))) ?_
          refine seqE ?_
          refine .inl ⟨by kernel_rfl, ?_⟩
          refine andE (by (first | omega | (dsimp only <;> omega) | (simp (disch := omega) only [wrap_small, mid_eq, mid_eq1, mid_eq2, mid_eq3, List.length_map, List.length_set] <;> omega) | (simp (disch := omega) only [wrap_small, mid_eq, mid_eq1, mid_eq2, mid_eq3, List.length_map, List.length_set] at * <;> omega))) ?_
          refine rowGet (i := (p2).toNat) (l := p0) (by first | rfl | exact Nat.zero_add _ | simp) (fun hq12 => ?_)
          refine andE (by (first | omega | (dsimp only <;> omega) | (simp (disch := omega) only [wrap_small, mid_eq, mid_eq1, mid_eq2, mid_eq3, List.length_map, List.length_set] <;> omega) | (simp (disch := omega) only [wrap_small, mid_eq, mid_eq1, mid_eq2, mid_eq3, List.length_map, List.length_set] at * <;> omega))) ?_
          refine rowGet (i := ((IntKind.i64.wrap (iShr .u64 (IntKind.u64.wrap (IntKind.i64.wrap (x3.s.1 + x3.s.2))) 1))).toNat) (l := p0) (by first | rfl | exact Nat.zero_add _ | simp) (fun hq13 => ?_)
          refine ⟨_, _, c_impl_OpenTrails_1 (p0[(p2).toNat]?.getD default) (p0[((IntKind.i64.wrap (iShr .u64 (IntKind.u64.wrap (IntKind.i64.wrap (x3.s.1 + x3.s.2))) 1))).toNat]?.getD default), (FzAs.same _), ?_⟩
          exact brE hb3 (fun hb3 h14 => x3.goE hb3 (show (fun s : Int × Int => p1 ≤ s.1 ∧ s.1 ≤ s.2 ∧ s.2 ≤ p2) ((IntKind.i64.wrap ((IntKind.i64.wrap (iShr .u64 (IntKind.u64.wrap (IntKind.i64.wrap (x3.s.1 + x3.s.2))) 1)) + 1)), x3.s.2) ∧ (fun s : Int × Int => (s.2 - s.1).toNat) ((IntKind.i64.wrap ((IntKind.i64.wrap (iShr .u64 (IntKind.u64.wrap (IntKind.i64.wrap (x3.s.1 + x3.s.2))) 1)) + 1)), x3.s.2) < (fun s : Int × Int => (s.2 - s.1).toNat) x3.s by exact ⟨⟨by (first | omega | (dsimp only <;> omega) | (simp (disch := omega) only [wrap_small, mid_eq, mid_eq1, mid_eq2, mid_eq3, List.length_map, List.length_set] <;> omega) | (simp (disch := omega) only [wrap_small, mid_eq, mid_eq1, mid_eq2, mid_eq3, List.length_map, List.length_set] at * <;> omega)), by (first | omega | (dsimp only <;> omega) | (simp (disch := omega) only [wrap_small, mid_eq, mid_eq1, mid_eq2, mid_eq3, List.length_map, List.length_set] <;> omega) | (simp (disch := omega) only [wrap_small, mid_eq, mid_eq1, mid_eq2, mid_eq3, List.length_map, List.length_set] at * <;> omega)), by (first | omega | (dsimp only <;> omega) | (simp (disch := omega) only [wrap_small, mid_eq, mid_eq1, mid_eq2, mid_eq3, List.length_map, List.length_set] <;> omega) | (simp (disch := omega) only [wrap_small, mid_eq, mid_eq1, mid_eq2, mid_eq3, List.length_map, List.length_set] at * <;> omega))⟩, by (first | omega | (dsimp only <;> omega) | (simp (disch := omega) only [wrap_small, mid_eq, mid_eq1, mid_eq2, mid_eq3, List.length_map, List.length_set] <;> omega) | (simp (disch := omega) only [wrap_small, mid_eq, mid_eq1, mid_eq2, mid_eq3, List.length_map, List.length_set] at * <;> omega))⟩) [none, some 1] ⟨rfl, ⟨rfl, rfl, ⟨rfl, rfl, rfl, rfl, by (first | rfl | omega | (dsimp only; omega) | (simp; done) | (simp; omega) | (simp [LstSt.init, LstSt.step, LstInv.init, CntSt.init, CntSt.step, CntInv.init, WhlSt.init, WhlSt.step]; done) | (simp [LstSt.init, LstSt.step, LstInv.init, CntSt.init, CntSt.step, CntInv.init, WhlSt.init, WhlSt.step]; omega))⟩, rfl, ⟨rfl, trivial⟩, trivial⟩, ⟨⟨rfl, rfl, rfl⟩, trivial⟩, ⟨⟨rfl, rfl, rfl, rfl, by (first | rfl | omega | (dsimp only; omega) | (simp; done) | (simp; omega) | (simp [LstSt.init, LstSt.step, LstInv.init, CntSt.init, CntSt.step, CntInv.init, WhlSt.init, WhlSt.step]; done) | (simp [LstSt.init, LstSt.step, LstInv.init, CntSt.init, CntSt.step, CntInv.init, WhlSt.init, WhlSt.step]; omega))⟩, trivial⟩⟩) (fun hb3 h14 => x3.goE hb3 (show (fun s : Int × Int => p1 ≤ s.1 ∧ s.1 ≤ s.2 ∧ s.2 ≤ p2) (x3.s.1, (IntKind.i64.wrap (iShr .u64 (IntKind.u64.wrap (IntKind.i64.wrap (x3.s.1 + x3.s.2))) 1))) ∧ (fun s : Int × Int => (s.2 - s.1).toNat) (x3.s.1, (IntKind.i64.wrap (iShr .u64 (IntKind.u64.wrap (IntKind.i64.wrap (x3.s.1 + x3.s.2))) 1))) < (fun s : Int × Int => (s.2 - s.1).toNat) x3.s by exact ⟨⟨by (first | omega | (dsimp only <;> omega) | (simp (disch := omega) only [wrap_small, mid_eq, mid_eq1, mid_eq2, mid_eq3, List.length_map, List.length_set] <;> omega) | (simp (disch := omega) only [wrap_small, mid_eq, mid_eq1, mid_eq2, mid_eq3, List.length_map, List.length_set] at * <;> omega)), by (first | omega | (dsimp only <;> omega) | (simp (disch := omega) only [wrap_small, mid_eq, mid_eq1, mid_eq2, mid_eq3, List.length_map, List.length_set] <;> omega) | (simp (disch := omega) only [wrap_small, mid_eq, mid_eq1, mid_eq2, mid_eq3, List.length_map, List.length_set] at * <;> omega)), by (first | omega | (dsimp only <;> omega) | (simp (disch := omega) only [wrap_small, mid_eq, mid_eq1, mid_eq2, mid_eq3, List.length_map, List.length_set] <;> omega) | (simp (disch := omega) only [wrap_small, mid_eq, mid_eq1, mid_eq2, mid_eq3, List.length_map, List.length_set] at * <;> omega))⟩, by (first | omega | (dsimp only <;> omega) | (simp (disch := omega) only [wrap_small, mid_eq, mid_eq1, mid_eq2, mid_eq3, List.length_map, List.length_set] <;> omega) | (simp (disch := omega) only [wrap_small, mid_eq, mid_eq1, mid_eq2, mid_eq3, List.length_map, List.length_set] at * <;> omega))⟩) [none, some 1] ⟨rfl, ⟨rfl, rfl, ⟨rfl, rfl, rfl, rfl, by (first | rfl | omega | (dsimp only; omega) | (simp; done) | (simp; omega) | (simp [LstSt.init, LstSt.step, LstInv.init, CntSt.init, CntSt.step, CntInv.init, WhlSt.init, WhlSt.step]; done) | (simp [LstSt.init, LstSt.step, LstInv.init, CntSt.init, CntSt.step, CntInv.init, WhlSt.init, WhlSt.step]; omega))⟩, rfl, ⟨rfl, trivial⟩, trivial⟩, ⟨⟨rfl, rfl, rfl⟩, trivial⟩, ⟨⟨rfl, rfl, rfl, rfl, by (first | rfl | omega | (dsimp only; omega) | (simp; done) | (simp; omega) | (simp [LstSt.init, LstSt.step, LstInv.init, CntSt.init, CntSt.step, CntInv.init, WhlSt.init, WhlSt.step]; done) | (simp [LstSt.init, LstSt.step, LstInv.init, CntSt.init, CntSt.step, CntInv.init, WhlSt.init, WhlSt.step]; omega))⟩, trivial⟩⟩)
        · have hg := finE hg (x3.outS hb3)
          refine seqE ?_
          refine seqE ?_
          refine loopWE (m := (fun s : (List Trail) × Int => (s.2 - x3.s.1).toNat)) (s0 := (p0, p2)) (fun s : (List Trail) × Int => (Srt (fun _ => True) s.1 ∧ s.1.length = p0.length) ∧ x3.s.1 ≤ s.2 ∧ s.2 ≤ p2) hg (by exact ⟨⟨hs.1.1, rfl⟩, by (first | omega | (dsimp only <;> omega) | (simp (disch := omega) only [wrap_small, mid_eq, mid_eq1, mid_eq2, mid_eq3, List.length_map, List.length_set] <;> omega) | (simp (disch := omega) only [wrap_small, mid_eq, mid_eq1, mid_eq2, mid_eq3, List.length_map, List.length_set] at * <;> omega)), by (first | omega | (dsimp only <;> omega) | (simp (disch := omega) only [wrap_small, mid_eq, mid_eq1, mid_eq2, mid_eq3, List.length_map, List.length_set] <;> omega) | (simp (disch := omega) only [wrap_small, mid_eq, mid_eq1, mid_eq2, mid_eq3, List.length_map, List.length_set] at * <;> omega))⟩) [0, 14] (fun x4 => [(17, .one (.v (.int .i64 x4.s.2)))]) (fun x4 => [.dead, .new ⟨4, false, List.map (Trail.cells false) x4.s.1, 0⟩]) [none, some 1] ?_ (fun x4 => ?_)
          · exact ⟨rfl, ⟨rfl, ⟨rfl, rfl, rfl, rfl, by (first | rfl | omega | (dsimp only; omega) | (simp; done) | (simp; omega) | (simp [LstSt.init, LstSt.step, LstInv.init, CntSt.init, CntSt.step, CntInv.init, WhlSt.init, WhlSt.step]; done) | (simp [LstSt.init, LstSt.step, LstInv.init, CntSt.init, CntSt.step, CntInv.init, WhlSt.init, WhlSt.step]; omega))⟩, rfl, trivial⟩, ⟨⟨rfl, rfl, rfl⟩, trivial⟩, ⟨⟨rfl, rfl, rfl, rfl, by (first | rfl | omega | (dsimp only; omega) | (simp; done) | (simp; omega) | (simp [LstSt.init, LstSt.step, LstInv.init, CntSt.init, CntSt.step, CntInv.init, WhlSt.init, WhlSt.step]; done) | (simp [LstSt.init, LstSt.step, LstInv.init, CntSt.init, CntSt.step, CntInv.init, WhlSt.init, WhlSt.step]; omega))⟩, trivial⟩⟩
          have hI4 := x4.hI
          try dsimp only at hI4
          have hb4 := x4.bdy.trans (slices_symMergeCmpFunc_Trail_c_impl_OpenTrails_1_z_b4.eq_1 ..)
          refine seqE ?_
          refine seqE ?_
          refine brD hb4 (fun hb4 h15 => ?_) (fun hb4 h15 => ?_)
          · refine seqE ?_
            refine .inr (.inr (.inr ⟨(.q 0 (.q 1 (.q 2 (.q 3 (.q 4 (.q 5 (.q 6 (.q 7 (.q 8 (.q 10 (.q 11 (.q 12 (.b 9 (.o 13 (.o 14 (.o 15 (.o 16 (.o 17 .leaf))))) 13 (.o 9 (.o 14 (.o 15 (.o 16 (.o 17 .leaf)))))))))))))))))), by kernel_rfl, ?_⟩))
            refine andE (by (first | omega | (dsimp only <;> omega) | (simp (disch := omega) only [wrap_small, mid_eq, mid_eq1, mid_eq2, mid_eq3, List.length_map, List.length_set] <;> omega) | (simp (disch := omega) only [wrap_small, mid_eq, mid_eq1, mid_eq2, mid_eq3, List.length_map, List.length_set] at * <;> omega))) ?_
            refine andE (by (first | omega | (dsimp only <;> omega) | (simp (disch := omega) only [wrap_small, mid_eq, mid_eq1, mid_eq2, mid_eq3, List.length_map, List.length_set] <;> omega) | (simp (disch := omega) only [wrap_small, mid_eq, mid_eq1, mid_eq2, mid_eq3, List.length_map, List.length_set] at * <;> omega))) ?_
            refine And.intro ?_ ?_
            · refine rowGet (i := ((IntKind.i64.wrap (x4.s.2 - 1))).toNat) (l := x4.s.1) (by first | rfl | exact Nat.zero_add _ | simp) (fun hq16 => ?_)
              refine rowGet (i := (x4.s.2).toNat) (l := x4.s.1) (by first | rfl | exact Nat.zero_add _ | simp) (fun hq17 => ?_)
              refine andE (by (first | omega | (dsimp only <;> omega) | (simp (disch := omega) only [wrap_small, mid_eq, mid_eq1, mid_eq2, mid_eq3, List.length_map, List.length_set] <;> omega) | (simp (disch := omega) only [wrap_small, mid_eq, mid_eq1, mid_eq2, mid_eq3, List.length_map, List.length_set] at * <;> omega))) ?_
              refine rowsE (Y := List.map (Trail.cells false) (List.set x4.s.1 (x4.s.2).toNat (x4.s.1[((IntKind.i64.wrap (x4.s.2 - 1))).toNat]?.getD default))) (by exact setMapE (by simp) (fun a ha => by first | rfl | (simp only [ha, Option.getD_some]; rfl) | (obtain ⟨_, rfl⟩ := List.getElem?_eq_some_iff.1 ha; rfl) | (simp only [Pol.cells_eq]; rfl) | (simp only [ha, Option.getD_some, Pol.cells_eq]; rfl))) ?_
              refine andE (by (first | omega | (dsimp only <;> omega) | (simp (disch := omega) only [wrap_small, mid_eq, mid_eq1, mid_eq2, mid_eq3, List.length_map, List.length_set] <;> omega) | (simp (disch := omega) only [wrap_small, mid_eq, mid_eq1, mid_eq2, mid_eq3, List.length_map, List.length_set] at * <;> omega))) ?_
              refine rowsE (Y := List.map (Trail.cells false) (List.set (List.set x4.s.1 (x4.s.2).toNat (x4.s.1[((IntKind.i64.wrap (x4.s.2 - 1))).toNat]?.getD default)) ((IntKind.i64.wrap (x4.s.2 - 1))).toNat (x4.s.1[(x4.s.2).toNat]?.getD default))) (by exact setMapE (by simp) (fun a ha => by first | rfl | (simp only [ha, Option.getD_some]; rfl) | (obtain ⟨_, rfl⟩ := List.getElem?_eq_some_iff.1 ha; rfl) | (simp only [Pol.cells_eq]; rfl) | (simp only [ha, Option.getD_some, Pol.cells_eq]; rfl))) ?_
              exact x4.goE hb4 (show (fun s : (List Trail) × Int => (Srt (fun _ => True) s.1 ∧ s.1.length = p0.length) ∧ x3.s.1 ≤ s.2 ∧ s.2 ≤ p2) ((List.set (List.set x4.s.1 (x4.s.2).toNat (x4.s.1[((IntKind.i64.wrap (x4.s.2 - 1))).toNat]?.getD default)) ((IntKind.i64.wrap (x4.s.2 - 1))).toNat (x4.s.1[(x4.s.2).toNat]?.getD default)), (IntKind.i64.wrap (x4.s.2 - 1))) ∧ (fun s : (List Trail) × Int => (s.2 - x3.s.1).toNat) ((List.set (List.set x4.s.1 (x4.s.2).toNat (x4.s.1[((IntKind.i64.wrap (x4.s.2 - 1))).toNat]?.getD default)) ((IntKind.i64.wrap (x4.s.2 - 1))).toNat (x4.s.1[(x4.s.2).toNat]?.getD default)), (IntKind.i64.wrap (x4.s.2 - 1))) < (fun s : (List Trail) × Int => (s.2 - x3.s.1).toNat) x4.s by exact ⟨⟨Sz.swp (N := p0.length) hI4.1 (by (first | omega | (dsimp only <;> omega) | (simp (disch := omega) only [wrap_small, mid_eq, mid_eq1, mid_eq2, mid_eq3, List.length_map, List.length_set] <;> omega) | (simp (disch := omega) only [wrap_small, mid_eq, mid_eq1, mid_eq2, mid_eq3, List.length_map, List.length_set] at * <;> omega))) (by (first | omega | (dsimp only <;> omega) | (simp (disch := omega) only [wrap_small, mid_eq, mid_eq1, mid_eq2, mid_eq3, List.length_map, List.length_set] <;> omega) | (simp (disch := omega) only [wrap_small, mid_eq, mid_eq1, mid_eq2, mid_eq3, List.length_map, List.length_set] at * <;> omega))), by (first | omega | (dsimp only <;> omega) | (simp (disch := omega) only [wrap_small, mid_eq, mid_eq1, mid_eq2, mid_eq3, List.length_map, List.length_set] <;> omega) | (simp (disch := omega) only [wrap_small, mid_eq, mid_eq1, mid_eq2, mid_eq3, List.length_map, List.length_set] at * <;> omega)), by (first | omega | (dsimp only <;> omega) | (simp (disch := omega) only [wrap_small, mid_eq, mid_eq1, mid_eq2, mid_eq3, List.length_map, List.length_set] <;> omega) | (simp (disch := omega) only [wrap_small, mid_eq, mid_eq1, mid_eq2, mid_eq3, List.length_map, List.length_set] at * <;> omega))⟩, by (first | omega | (dsimp only <;> omega) | (simp (disch := omega) only [wrap_small, mid_eq, mid_eq1, mid_eq2, mid_eq3, List.length_map, List.length_set] <;> omega) | (simp (disch := omega) only [wrap_small, mid_eq, mid_eq1, mid_eq2, mid_eq3, List.length_map, List.length_set] at * <;> omega))⟩) [none, some 1] ⟨rfl, ⟨rfl, ⟨rfl, rfl, rfl, rfl, by (first | rfl | omega | (dsimp only; omega) | (simp; done) | (simp; omega) | (simp [LstSt.init, LstSt.step, LstInv.init, CntSt.init, CntSt.step, CntInv.init, WhlSt.init, WhlSt.step]; done) | (simp [LstSt.init, LstSt.step, LstInv.init, CntSt.init, CntSt.step, CntInv.init, WhlSt.init, WhlSt.step]; omega))⟩, rfl, trivial⟩, ⟨⟨rfl, rfl, rfl⟩, trivial⟩, ⟨⟨rfl, rfl, rfl, rfl, by (first | rfl | omega | (dsimp only; omega) | (simp; done) | (simp; omega) | (simp [LstSt.init, LstSt.step, LstInv.init, CntSt.init, CntSt.step, CntInv.init, WhlSt.init, WhlSt.step]; done) | (simp [LstSt.init, LstSt.step, LstInv.init, CntSt.init, CntSt.step, CntInv.init, WhlSt.init, WhlSt.step]; omega))⟩, trivial⟩⟩
            refine rowGet (i := (x4.s.2).toNat) (l := x4.s.1) (by first | rfl | exact Nat.zero_add _ | simp) (fun hq18 => ?_)
            refine rowGet (i := ((IntKind.i64.wrap (x4.s.2 - 1))).toNat) (l := x4.s.1) (by first | rfl | exact Nat.zero_add _ | simp) (fun hq19 => ?_)
            refine andE (by (first | omega | (dsimp only <;> omega) | (simp (disch := omega) only [wrap_small, mid_eq, mid_eq1, mid_eq2, mid_eq3, List.length_map, List.length_set] <;> omega) | (simp (disch := omega) only [wrap_small, mid_eq, mid_eq1, mid_eq2, mid_eq3, List.length_map, List.length_set] at * <;> omega))) ?_
            refine rowsE (Y := List.map (Trail.cells false) (List.set x4.s.1 (x4.s.2).toNat (x4.s.1[((IntKind.i64.wrap (x4.s.2 - 1))).toNat]?.getD default))) (by exact setMapE (by simp) (fun a ha => by first | rfl | (simp only [ha, Option.getD_some]; rfl) | (obtain ⟨_, rfl⟩ := List.getElem?_eq_some_iff.1 ha; rfl) | (simp only [Pol.cells_eq]; rfl) | (simp only [ha, Option.getD_some, Pol.cells_eq]; rfl))) ?_
            refine andE (by (first | omega | (dsimp only <;> omega) | (simp (disch := omega) only [wrap_small, mid_eq, mid_eq1, mid_eq2, mid_eq3, List.length_map, List.length_set] <;> omega) | (simp (disch := omega) only [wrap_small, mid_eq, mid_eq1, mid_eq2, mid_eq3, List.length_map, List.length_set] at * <;> omega))) ?_
            refine rowsE (Y := List.map (Trail.cells false) (List.set (List.set x4.s.1 (x4.s.2).toNat (x4.s.1[((IntKind.i64.wrap (x4.s.2 - 1))).toNat]?.getD default)) ((IntKind.i64.wrap (x4.s.2 - 1))).toNat (x4.s.1[(x4.s.2).toNat]?.getD default))) (by exact setMapE (by simp) (fun a ha => by first | rfl | (simp only [ha, Option.getD_some]; rfl) | (obtain ⟨_, rfl⟩ := List.getElem?_eq_some_iff.1 ha; rfl) | (simp only [Pol.cells_eq]; rfl) | (simp only [ha, Option.getD_some, Pol.cells_eq]; rfl))) ?_
            exact x4.goE hb4 (show (fun s : (List Trail) × Int => (Srt (fun _ => True) s.1 ∧ s.1.length = p0.length) ∧ x3.s.1 ≤ s.2 ∧ s.2 ≤ p2) ((List.set (List.set x4.s.1 (x4.s.2).toNat (x4.s.1[((IntKind.i64.wrap (x4.s.2 - 1))).toNat]?.getD default)) ((IntKind.i64.wrap (x4.s.2 - 1))).toNat (x4.s.1[(x4.s.2).toNat]?.getD default)), (IntKind.i64.wrap (x4.s.2 - 1))) ∧ (fun s : (List Trail) × Int => (s.2 - x3.s.1).toNat) ((List.set (List.set x4.s.1 (x4.s.2).toNat (x4.s.1[((IntKind.i64.wrap (x4.s.2 - 1))).toNat]?.getD default)) ((IntKind.i64.wrap (x4.s.2 - 1))).toNat (x4.s.1[(x4.s.2).toNat]?.getD default)), (IntKind.i64.wrap (x4.s.2 - 1))) < (fun s : (List Trail) × Int => (s.2 - x3.s.1).toNat) x4.s by exact ⟨⟨Sz.swp (N := p0.length) hI4.1 (by (first | omega | (dsimp only <;> omega) | (simp (disch := omega) only [wrap_small, mid_eq, mid_eq1, mid_eq2, mid_eq3, List.length_map, List.length_set] <;> omega) | (simp (disch := omega) only [wrap_small, mid_eq, mid_eq1, mid_eq2, mid_eq3, List.length_map, List.length_set] at * <;> omega))) (by (first | omega | (dsimp only <;> omega) | (simp (disch := omega) only [wrap_small, mid_eq, mid_eq1, mid_eq2, mid_eq3, List.length_map, List.length_set] <;> omega) | (simp (disch := omega) only [wrap_small, mid_eq, mid_eq1, mid_eq2, mid_eq3, List.length_map, List.length_set] at * <;> omega))), by (first | omega | (dsimp only <;> omega) | (simp (disch := omega) only [wrap_small, mid_eq, mid_eq1, mid_eq2, mid_eq3, List.length_map, List.length_set] <;> omega) | (simp (disch := omega) only [wrap_small, mid_eq, mid_eq1, mid_eq2, mid_eq3, List.length_map, List.length_set] at * <;> omega)), by (first | omega | (dsimp only <;> omega) | (simp (disch := omega) only [wrap_small, mid_eq, mid_eq1, mid_eq2, mid_eq3, List.length_map, List.length_set] <;> omega) | (simp (disch := omega) only [wrap_small, mid_eq, mid_eq1, mid_eq2, mid_eq3, List.length_map, List.length_set] at * <;> omega))⟩, by (first | omega | (dsimp only <;> omega) | (simp (disch := omega) only [wrap_small, mid_eq, mid_eq1, mid_eq2, mid_eq3, List.length_map, List.length_set] <;> omega) | (simp (disch := omega) only [wrap_small, mid_eq, mid_eq1, mid_eq2, mid_eq3, List.length_map, List.length_set] at * <;> omega))⟩) [none, some 1] ⟨rfl, ⟨rfl, ⟨rfl, rfl, rfl, rfl, by (first | rfl | omega | (dsimp only; omega) | (simp; done) | (simp; omega) | (simp [LstSt.init, LstSt.step, LstInv.init, CntSt.init, CntSt.step, CntInv.init, WhlSt.init, WhlSt.step]; done) | (simp [LstSt.init, LstSt.step, LstInv.init, CntSt.init, CntSt.step, CntInv.init, WhlSt.init, WhlSt.step]; omega))⟩, rfl, trivial⟩, ⟨⟨rfl, rfl, rfl⟩, trivial⟩, ⟨⟨rfl, rfl, rfl, rfl, by (first | rfl | omega | (dsimp only; omega) | (simp; done) | (simp; omega) | (simp [LstSt.init, LstSt.step, LstInv.init, CntSt.init, CntSt.step, CntInv.init, WhlSt.init, WhlSt.step]; done) | (simp [LstSt.init, LstSt.step, LstInv.init, CntSt.init, CntSt.step, CntInv.init, WhlSt.init, WhlSt.step]; omega))⟩, trivial⟩⟩
          · have hg := finE hg (x4.outS hb4)
            exact leafM hown hg
      · refine seqE ?_
        refine andE (by (first | omega | (simp (disch := omega) only [wrap_small, mid_eq, List.length_map]; omega) | (simp; done) | (simp; omega) | (simp at *; omega) | (simp at *; done) | (simp_all; done) | (simp_all; omega))) ?_
        refine seqE ?_
        refine seqE ?_
        refine joinE hg [0, 1, 2, 3, 4, 18, 19] (fun x5 => [(20, .one (.v (.int .i64 x5.s.1))), (21, .one (.v (.int .i64 x5.s.2)))]) (fun x5 => [.dead, .keep 1]) (fun hb5 => ?_) (fun x5 hg => ?_)
        · have hb5 := hb5.trans (slices_symMergeCmpFunc_Trail_c_impl_OpenTrails_1_z_j5.eq_1 ..)
          refine seqE ?_
          refine brD hb5 (fun hb5 h20 => ?_) (fun hb5 h20 => ?_)
          · refine seqE ?_
            exact .inl ⟨⟨_, hb5⟩, [none, some 1], ⟨rfl, ⟨rfl, rfl, ⟨rfl, rfl, rfl, rfl, by (first | rfl | omega | (dsimp only; omega) | (simp; done) | (simp; omega) | (simp [LstSt.init, LstSt.step, LstInv.init, CntSt.init, CntSt.step, CntInv.init, WhlSt.init, WhlSt.step]; done) | (simp [LstSt.init, LstSt.step, LstInv.init, CntSt.init, CntSt.step, CntInv.init, WhlSt.init, WhlSt.step]; omega))⟩, rfl, rfl, rfl, ⟨rfl, trivial⟩, rfl, rfl, trivial⟩, ⟨⟨rfl, rfl, rfl⟩, trivial⟩, ⟨⟨rfl, rfl, rfl, rfl, by (first | rfl | omega | (dsimp only; omega) | (simp; done) | (simp; omega) | (simp [LstSt.init, LstSt.step, LstInv.init, CntSt.init, CntSt.step, CntInv.init, WhlSt.init, WhlSt.step]; done) | (simp [LstSt.init, LstSt.step, LstInv.init, CntSt.init, CntSt.step, CntInv.init, WhlSt.init, WhlSt.step]; omega))⟩, trivial⟩⟩⟩
          · refine seqE ?_
            exact .inl ⟨⟨_, hb5⟩, [none, some 1], ⟨rfl, ⟨rfl, rfl, ⟨rfl, rfl, rfl, rfl, by (first | rfl | omega | (dsimp only; omega) | (simp; done) | (simp; omega) | (simp [LstSt.init, LstSt.step, LstInv.init, CntSt.init, CntSt.step, CntInv.init, WhlSt.init, WhlSt.step]; done) | (simp [LstSt.init, LstSt.step, LstInv.init, CntSt.init, CntSt.step, CntInv.init, WhlSt.init, WhlSt.step]; omega))⟩, rfl, rfl, rfl, ⟨rfl, trivial⟩, rfl, rfl, trivial⟩, ⟨⟨rfl, rfl, rfl⟩, trivial⟩, ⟨⟨rfl, rfl, rfl, rfl, by (first | rfl | omega | (dsimp only; omega) | (simp; done) | (simp; omega) | (simp [LstSt.init, LstSt.step, LstInv.init, CntSt.init, CntSt.step, CntInv.init, WhlSt.init, WhlSt.step]; done) | (simp [LstSt.init, LstSt.step, LstInv.init, CntSt.init, CntSt.step, CntInv.init, WhlSt.init, WhlSt.step]; omega))⟩, trivial⟩⟩⟩
        have q5 := j5_ok (α := Trail) (m := p2) (a := p1) (b := p3) hs.2.1 hs.2.2.1 hs.2.2.2.1 (by omega) x5.e
        refine seqE ?_
        refine seqE ?_
        refine loopWE (m := (fun s : Int × Int => (s.2 - s.1).toNat)) (s0 := (x5.s.1, x5.s.2)) (fun s : Int × Int => x5.s.1 ≤ s.1 ∧ s.1 ≤ s.2 ∧ s.2 ≤ x5.s.2) hg (by exact ⟨by (first | omega | (dsimp only <;> omega) | (simp (disch := omega) only [wrap_small, mid_eq, mid_eq1, mid_eq2, mid_eq3, List.length_map, List.length_set] <;> omega) | (simp (disch := omega) only [wrap_small, mid_eq, mid_eq1, mid_eq2, mid_eq3, List.length_map, List.length_set] at * <;> omega)), by (first | omega | (dsimp only <;> omega) | (simp (disch := omega) only [wrap_small, mid_eq, mid_eq1, mid_eq2, mid_eq3, List.length_map, List.length_set] <;> omega) | (simp (disch := omega) only [wrap_small, mid_eq, mid_eq1, mid_eq2, mid_eq3, List.length_map, List.length_set] at * <;> omega)), by (first | omega | (dsimp only <;> omega) | (simp (disch := omega) only [wrap_small, mid_eq, mid_eq1, mid_eq2, mid_eq3, List.length_map, List.length_set] <;> omega) | (simp (disch := omega) only [wrap_small, mid_eq, mid_eq1, mid_eq2, mid_eq3, List.length_map, List.length_set] at * <;> omega))⟩) [0, 1, 2, 3, 4, 18, 19, 22] (fun x6 => [(20, .one (.v (.int .i64 x6.s.1))), (21, .one (.v (.int .i64 x6.s.2)))]) (fun x6 => [.dead, .keep 1]) [none, some 1] ?_ (fun x6 => ?_)
        · exact ⟨rfl, ⟨rfl, rfl, ⟨rfl, rfl, rfl, rfl, by (first | rfl | omega | (dsimp only; omega) | (simp; done) | (simp; omega) | (simp [LstSt.init, LstSt.step, LstInv.init, CntSt.init, CntSt.step, CntInv.init, WhlSt.init, WhlSt.step]; done) | (simp [LstSt.init, LstSt.step, LstInv.init, CntSt.init, CntSt.step, CntInv.init, WhlSt.init, WhlSt.step]; omega))⟩, rfl, rfl, rfl, ⟨rfl, trivial⟩, rfl, rfl, rfl, trivial⟩, ⟨⟨rfl, rfl, rfl⟩, trivial⟩, ⟨⟨rfl, rfl, rfl, rfl, by (first | rfl | omega | (dsimp only; omega) | (simp; done) | (simp; omega) | (simp [LstSt.init, LstSt.step, LstInv.init, CntSt.init, CntSt.step, CntInv.init, WhlSt.init, WhlSt.step]; done) | (simp [LstSt.init, LstSt.step, LstInv.init, CntSt.init, CntSt.step, CntInv.init, WhlSt.init, WhlSt.step]; omega))⟩, trivial⟩⟩
        have hI6 := x6.hI
        try dsimp only at hI6
        have hb6 := x6.bdy.trans (slices_symMergeCmpFunc_Trail_c_impl_OpenTrails_1_z_b6.eq_1 ..)
        refine seqE ?_
        refine seqE ?_
        refine brD hb6 (fun hb6 h21 => ?_) (fun hb6 h21 => ?_)
        · refine seqE ?_
          refine andE (by (first | omega | (simp (disch := omega) only [wrap_small, mid_eq, List.length_map]; omega) | (simp; done) | (simp; omega) | (simp at *; omega) | (simp at *; done) | (simp_all; done) | (simp_all; omega))) ?_
          refine seqE ?_
          refine .inl ⟨by kernel_rfl, ?_⟩
          refine andE (by (first | omega | (dsimp only <;> omega) | (simp (disch := omega) only [wrap_small, mid_eq, mid_eq1, mid_eq2, mid_eq3, List.length_map, List.length_set] <;> omega) | (simp (disch := omega) only [wrap_small, mid_eq, mid_eq1, mid_eq2, mid_eq3, List.length_map, List.length_set] at * <;> omega))) ?_
          refine rowGet (i := ((IntKind.i64.wrap ((IntKind.i64.wrap ((IntKind.i64.wrap ((IntKind.i64.wrap (iShr .u64 (IntKind.u64.wrap (IntKind.i64.wrap (p1 + p3))) 1)) + p2)) - 1)) - (IntKind.i64.wrap (iShr .u64 (IntKind.u64.wrap (IntKind.i64.wrap (x6.s.1 + x6.s.2))) 1))))).toNat) (l := p0) (by first | rfl | exact Nat.zero_add _ | simp) (fun hq22 => ?_)
          refine andE (by (first | omega | (dsimp only <;> omega) | (simp (disch := omega) only [wrap_small, mid_eq, mid_eq1, mid_eq2, mid_eq3, List.length_map, List.length_set] <;> omega) | (simp (disch := omega) only [wrap_small, mid_eq, mid_eq1, mid_eq2, mid_eq3, List.length_map, List.length_set] at * <;> omega))) ?_
          refine rowGet (i := ((IntKind.i64.wrap (iShr .u64 (IntKind.u64.wrap (IntKind.i64.wrap (x6.s.1 + x6.s.2))) 1))).toNat) (l := p0) (by first | rfl | exact Nat.zero_add _ | simp) (fun hq23 => ?_)
          refine ⟨_, _, c_impl_OpenTrails_1 (p0[((IntKind.i64.wrap ((IntKind.i64.wrap ((IntKind.i64.wrap ((IntKind.i64.wrap (iShr .u64 (IntKind.u64.wrap (IntKind.i64.wrap (p1 + p3))) 1)) + p2)) - 1)) - (IntKind.i64.wrap (iShr .u64 (IntKind.u64.wrap (IntKind.i64.wrap (x6.s.1 + x6.s.2))) 1))))).toNat]?.getD default) (p0[((IntKind.i64.wrap (iShr .u64 (IntKind.u64.wrap (IntKind.i64.wrap (x6.s.1 + x6.s.2))) 1))).toNat]?.getD default), (FzAs.same _), ?_⟩
          exact brE hb6 (fun hb6 h24 => x6.goE hb6 (show (fun s : Int × Int => x5.s.1 ≤ s.1 ∧ s.1 ≤ s.2 ∧ s.2 ≤ x5.s.2) ((IntKind.i64.wrap ((IntKind.i64.wrap (iShr .u64 (IntKind.u64.wrap (IntKind.i64.wrap (x6.s.1 + x6.s.2))) 1)) + 1)), x6.s.2) ∧ (fun s : Int × Int => (s.2 - s.1).toNat) ((IntKind.i64.wrap ((IntKind.i64.wrap (iShr .u64 (IntKind.u64.wrap (IntKind.i64.wrap (x6.s.1 + x6.s.2))) 1)) + 1)), x6.s.2) < (fun s : Int × Int => (s.2 - s.1).toNat) x6.s by exact ⟨⟨by (first | omega | (dsimp only <;> omega) | (simp (disch := omega) only [wrap_small, mid_eq, mid_eq1, mid_eq2, mid_eq3, List.length_map, List.length_set] <;> omega) | (simp (disch := omega) only [wrap_small, mid_eq, mid_eq1, mid_eq2, mid_eq3, List.length_map, List.length_set] at * <;> omega)), by (first | omega | (dsimp only <;> omega) | (simp (disch := omega) only [wrap_small, mid_eq, mid_eq1, mid_eq2, mid_eq3, List.length_map, List.length_set] <;> omega) | (simp (disch := omega) only [wrap_small, mid_eq, mid_eq1, mid_eq2, mid_eq3, List.length_map, List.length_set] at * <;> omega)), by (first | omega | (dsimp only <;> omega) | (simp (disch := omega) only [wrap_small, mid_eq, mid_eq1, mid_eq2, mid_eq3, List.length_map, List.length_set] <;> omega) | (simp (disch := omega) only [wrap_small, mid_eq, mid_eq1, mid_eq2, mid_eq3, List.length_map, List.length_set] at * <;> omega))⟩, by (first | omega | (dsimp only <;> omega) | (simp (disch := omega) only [wrap_small, mid_eq, mid_eq1, mid_eq2, mid_eq3, List.length_map, List.length_set] <;> omega) | (simp (disch := omega) only [wrap_small, mid_eq, mid_eq1, mid_eq2, mid_eq3, List.length_map, List.length_set] at * <;> omega))⟩) [none, some 1] ⟨rfl, ⟨rfl, rfl, ⟨rfl, rfl, rfl, rfl, by (first | rfl | omega | (dsimp only; omega) | (simp; done) | (simp; omega) | (simp [LstSt.init, LstSt.step, LstInv.init, CntSt.init, CntSt.step, CntInv.init, WhlSt.init, WhlSt.step]; done) | (simp [LstSt.init, LstSt.step, LstInv.init, CntSt.init, CntSt.step, CntInv.init, WhlSt.init, WhlSt.step]; omega))⟩, rfl, rfl, rfl, ⟨rfl, trivial⟩, rfl, rfl, rfl, trivial⟩, ⟨⟨rfl, rfl, rfl⟩, trivial⟩, ⟨⟨rfl, rfl, rfl, rfl, by (first | rfl | omega | (dsimp only; omega) | (simp; done) | (simp; omega) | (simp [LstSt.init, LstSt.step, LstInv.init, CntSt.init, CntSt.step, CntInv.init, WhlSt.init, WhlSt.step]; done) | (simp [LstSt.init, LstSt.step, LstInv.init, CntSt.init, CntSt.step, CntInv.init, WhlSt.init, WhlSt.step]; omega))⟩, trivial⟩⟩) (fun hb6 h24 => x6.goE hb6 (show (fun s : Int × Int => x5.s.1 ≤ s.1 ∧ s.1 ≤ s.2 ∧ s.2 ≤ x5.s.2) (x6.s.1, (IntKind.i64.wrap (iShr .u64 (IntKind.u64.wrap (IntKind.i64.wrap (x6.s.1 + x6.s.2))) 1))) ∧ (fun s : Int × Int => (s.2 - s.1).toNat) (x6.s.1, (IntKind.i64.wrap (iShr .u64 (IntKind.u64.wrap (IntKind.i64.wrap (x6.s.1 + x6.s.2))) 1))) < (fun s : Int × Int => (s.2 - s.1).toNat) x6.s by exact ⟨⟨by (first | omega | (dsimp only <;> omega) | (simp (disch := omega) only [wrap_small, mid_eq, mid_eq1, mid_eq2, mid_eq3, List.length_map, List.length_set] <;> omega) | (simp (disch := omega) only [wrap_small, mid_eq, mid_eq1, mid_eq2, mid_eq3, List.length_map, List.length_set] at * <;> omega)), by (first | omega | (dsimp only <;> omega) | (simp (disch := omega) only [wrap_small, mid_eq, mid_eq1, mid_eq2, mid_eq3, List.length_map, List.length_set] <;> omega) | (simp (disch := omega) only [wrap_small, mid_eq, mid_eq1, mid_eq2, mid_eq3, List.length_map, List.length_set] at * <;> omega)), by (first | omega | (dsimp only <;> omega) | (simp (disch := omega) only [wrap_small, mid_eq, mid_eq1, mid_eq2, mid_eq3, List.length_map, List.length_set] <;> omega) | (simp (disch := omega) only [wrap_small, mid_eq, mid_eq1, mid_eq2, mid_eq3, List.length_map, List.length_set] at * <;> omega))⟩, by (first | omega | (dsimp only <;> omega) | (simp (disch := omega) only [wrap_small, mid_eq, mid_eq1, mid_eq2, mid_eq3, List.length_map, List.length_set] <;> omega) | (simp (disch := omega) only [wrap_small, mid_eq, mid_eq1, mid_eq2, mid_eq3, List.length_map, List.length_set] at * <;> omega))⟩) [none, some 1] ⟨rfl, ⟨rfl, rfl, ⟨rfl, rfl, rfl, rfl, by (first | rfl | omega | (dsimp only; omega) | (simp; done) | (simp; omega) | (simp [LstSt.init, LstSt.step, LstInv.init, CntSt.init, CntSt.step, CntInv.init, WhlSt.init, WhlSt.step]; done) | (simp [LstSt.init, LstSt.step, LstInv.init, CntSt.init, CntSt.step, CntInv.init, WhlSt.init, WhlSt.step]; omega))⟩, rfl, rfl, rfl, ⟨rfl, trivial⟩, rfl, rfl, rfl, trivial⟩, ⟨⟨rfl, rfl, rfl⟩, trivial⟩, ⟨⟨rfl, rfl, rfl, rfl, by (first | rfl | omega | (dsimp only; omega) | (simp; done) | (simp; omega) | (simp [LstSt.init, LstSt.step, LstInv.init, CntSt.init, CntSt.step, CntInv.init, WhlSt.init, WhlSt.step]; done) | (simp [LstSt.init, LstSt.step, LstInv.init, CntSt.init, CntSt.step, CntInv.init, WhlSt.init, WhlSt.step]; omega))⟩, trivial⟩⟩)
        · have hg := finE hg (x6.outS hb6)
          refine seqE ?_
          refine joinE hg [1, 3, 4, 18, 20, 24] (fun x7 => [(0, .one (.n 1 [] 1 0 (x7.s).length))]) (fun x7 => [.dead, .new ⟨4, false, List.map (Trail.cells false) x7.s, 0⟩, .dead]) (fun hb7 => ?_) (fun x7 hg => ?_)
          · have hb7 := hb7.trans (slices_symMergeCmpFunc_Trail_c_impl_OpenTrails_1_z_j7.eq_1 ..)
            refine seqE ?_
            refine brD hb7 (fun hb7 h25 => ?_) (fun hb7 h25 => .inl ⟨⟨_, hb7⟩, [none, some 1, none], ⟨rfl, ⟨⟨rfl, rfl, rfl, rfl, by (first | rfl | omega | (dsimp only; omega) | (simp; done) | (simp; omega) | (simp [LstSt.init, LstSt.step, LstInv.init, CntSt.init, CntSt.step, CntInv.init, WhlSt.init, WhlSt.step]; done) | (simp [LstSt.init, LstSt.step, LstInv.init, CntSt.init, CntSt.step, CntInv.init, WhlSt.init, WhlSt.step]; omega))⟩, rfl, rfl, ⟨rfl, trivial⟩, rfl, rfl, rfl, trivial⟩, ⟨⟨rfl, rfl, rfl⟩, trivial⟩, ⟨⟨rfl, rfl, rfl, rfl, by (first | rfl | omega | (dsimp only; omega) | (simp; done) | (simp; omega) | (simp [LstSt.init, LstSt.step, LstInv.init, CntSt.init, CntSt.step, CntInv.init, WhlSt.init, WhlSt.step]; done) | (simp [LstSt.init, LstSt.step, LstInv.init, CntSt.init, CntSt.step, CntInv.init, WhlSt.init, WhlSt.step]; omega))⟩, trivial⟩⟩⟩)
            refine brD hb7 (fun hb7 h26 => ?_) (fun hb7 h26 => .inl ⟨⟨_, hb7⟩, [none, some 1, none], ⟨rfl, ⟨⟨rfl, rfl, rfl, rfl, by (first | rfl | omega | (dsimp only; omega) | (simp; done) | (simp; omega) | (simp [LstSt.init, LstSt.step, LstInv.init, CntSt.init, CntSt.step, CntInv.init, WhlSt.init, WhlSt.step]; done) | (simp [LstSt.init, LstSt.step, LstInv.init, CntSt.init, CntSt.step, CntInv.init, WhlSt.init, WhlSt.step]; omega))⟩, rfl, rfl, ⟨rfl, trivial⟩, rfl, rfl, rfl, trivial⟩, ⟨⟨rfl, rfl, rfl⟩, trivial⟩, ⟨⟨rfl, rfl, rfl, rfl, by (first | rfl | omega | (dsimp only; omega) | (simp; done) | (simp; omega) | (simp [LstSt.init, LstSt.step, LstInv.init, CntSt.init, CntSt.step, CntInv.init, WhlSt.init, WhlSt.step]; done) | (simp [LstSt.init, LstSt.step, LstInv.init, CntSt.init, CntSt.step, CntInv.init, WhlSt.init, WhlSt.step]; omega))⟩, trivial⟩⟩⟩)
            refine .inr ⟨0, _, _, _, c_slices_rotateCmpFunc_Trail_c_impl_OpenTrails_1_z p0 x6.s.1 p2 (IntKind.i64.wrap ((IntKind.i64.wrap ((IntKind.i64.wrap (iShr .u64 (IntKind.u64.wrap (IntKind.i64.wrap (p1 + p3))) 1)) + p2)) - x6.s.1)) (by first | exact Srt.get hs.1.1 (by (first | omega | (dsimp only <;> omega) | (simp (disch := omega) only [wrap_small, mid_eq, mid_eq1, mid_eq2, mid_eq3, List.length_map, List.length_set] <;> omega) | (simp (disch := omega) only [wrap_small, mid_eq, mid_eq1, mid_eq2, mid_eq3, List.length_map, List.length_set] at * <;> omega))) | exact ⟨⟨hs.1.1, by (first | omega | (dsimp only <;> omega) | (simp (disch := omega) only [wrap_small, mid_eq, mid_eq1, mid_eq2, mid_eq3, List.length_map, List.length_set] <;> omega) | (simp (disch := omega) only [wrap_small, mid_eq, mid_eq1, mid_eq2, mid_eq3, List.length_map, List.length_set] at * <;> omega))⟩, by (first | omega | (dsimp only <;> omega) | (simp (disch := omega) only [wrap_small, mid_eq, mid_eq1, mid_eq2, mid_eq3, List.length_map, List.length_set] <;> omega) | (simp (disch := omega) only [wrap_small, mid_eq, mid_eq1, mid_eq2, mid_eq3, List.length_map, List.length_set] at * <;> omega)), by (first | omega | (dsimp only <;> omega) | (simp (disch := omega) only [wrap_small, mid_eq, mid_eq1, mid_eq2, mid_eq3, List.length_map, List.length_set] <;> omega) | (simp (disch := omega) only [wrap_small, mid_eq, mid_eq1, mid_eq2, mid_eq3, List.length_map, List.length_set] at * <;> omega)), by (first | omega | (dsimp only <;> omega) | (simp (disch := omega) only [wrap_small, mid_eq, mid_eq1, mid_eq2, mid_eq3, List.length_map, List.length_set] <;> omega) | (simp (disch := omega) only [wrap_small, mid_eq, mid_eq1, mid_eq2, mid_eq3, List.length_map, List.length_set] at * <;> omega)), by (first | omega | (dsimp only <;> omega) | (simp (disch := omega) only [wrap_small, mid_eq, mid_eq1, mid_eq2, mid_eq3, List.length_map, List.length_set] <;> omega) | (simp (disch := omega) only [wrap_small, mid_eq, mid_eq1, mid_eq2, mid_eq3, List.length_map, List.length_set] at * <;> omega))⟩ | exact ⟨⟨q8.1, by (first | omega | (dsimp only <;> omega) | (simp (disch := omega) only [wrap_small, mid_eq, mid_eq1, mid_eq2, mid_eq3, List.length_map, List.length_set] <;> omega) | (simp (disch := omega) only [wrap_small, mid_eq, mid_eq1, mid_eq2, mid_eq3, List.length_map, List.length_set] at * <;> omega))⟩, by (first | omega | (dsimp only <;> omega) | (simp (disch := omega) only [wrap_small, mid_eq, mid_eq1, mid_eq2, mid_eq3, List.length_map, List.length_set] <;> omega) | (simp (disch := omega) only [wrap_small, mid_eq, mid_eq1, mid_eq2, mid_eq3, List.length_map, List.length_set] at * <;> omega)), by (first | omega | (dsimp only <;> omega) | (simp (disch := omega) only [wrap_small, mid_eq, mid_eq1, mid_eq2, mid_eq3, List.length_map, List.length_set] <;> omega) | (simp (disch := omega) only [wrap_small, mid_eq, mid_eq1, mid_eq2, mid_eq3, List.length_map, List.length_set] at * <;> omega)), by (first | omega | (dsimp only <;> omega) | (simp (disch := omega) only [wrap_small, mid_eq, mid_eq1, mid_eq2, mid_eq3, List.length_map, List.length_set] <;> omega) | (simp (disch := omega) only [wrap_small, mid_eq, mid_eq1, mid_eq2, mid_eq3, List.length_map, List.length_set] at * <;> omega)), by (first | omega | (dsimp only <;> omega) | (simp (disch := omega) only [wrap_small, mid_eq, mid_eq1, mid_eq2, mid_eq3, List.length_map, List.length_set] <;> omega) | (simp (disch := omega) only [wrap_small, mid_eq, mid_eq1, mid_eq2, mid_eq3, List.length_map, List.length_set] at * <;> omega))⟩ | exact ⟨⟨q7.1, by (first | omega | (dsimp only <;> omega) | (simp (disch := omega) only [wrap_small, mid_eq, mid_eq1, mid_eq2, mid_eq3, List.length_map, List.length_set] <;> omega) | (simp (disch := omega) only [wrap_small, mid_eq, mid_eq1, mid_eq2, mid_eq3, List.length_map, List.length_set] at * <;> omega))⟩, by (first | omega | (dsimp only <;> omega) | (simp (disch := omega) only [wrap_small, mid_eq, mid_eq1, mid_eq2, mid_eq3, List.length_map, List.length_set] <;> omega) | (simp (disch := omega) only [wrap_small, mid_eq, mid_eq1, mid_eq2, mid_eq3, List.length_map, List.length_set] at * <;> omega)), by (first | omega | (dsimp only <;> omega) | (simp (disch := omega) only [wrap_small, mid_eq, mid_eq1, mid_eq2, mid_eq3, List.length_map, List.length_set] <;> omega) | (simp (disch := omega) only [wrap_small, mid_eq, mid_eq1, mid_eq2, mid_eq3, List.length_map, List.length_set] at * <;> omega)), by (first | omega | (dsimp only <;> omega) | (simp (disch := omega) only [wrap_small, mid_eq, mid_eq1, mid_eq2, mid_eq3, List.length_map, List.length_set] <;> omega) | (simp (disch := omega) only [wrap_small, mid_eq, mid_eq1, mid_eq2, mid_eq3, List.length_map, List.length_set] at * <;> omega)), by (first | omega | (dsimp only <;> omega) | (simp (disch := omega) only [wrap_small, mid_eq, mid_eq1, mid_eq2, mid_eq3, List.length_map, List.length_set] <;> omega) | (simp (disch := omega) only [wrap_small, mid_eq, mid_eq1, mid_eq2, mid_eq3, List.length_map, List.length_set] at * <;> omega))⟩), (FzAs.same _), .inl ?_⟩
            refine litE (m := 3) rfl ?_
            have hz27 := len_slices_rotateCmpFunc_Trail_c_impl_OpenTrails_1_z p0 x6.s.1 p2 (IntKind.i64.wrap ((IntKind.i64.wrap ((IntKind.i64.wrap (iShr .u64 (IntKind.u64.wrap (IntKind.i64.wrap (p1 + p3))) 1)) + p2)) - x6.s.1))
            exact .inl ⟨⟨_, hb7⟩, [none, some 1, none], ⟨rfl, ⟨⟨rfl, rfl, rfl, rfl, by (first | rfl | omega | (dsimp only; omega) | (simp; done) | (simp; omega) | (simp [LstSt.init, LstSt.step, LstInv.init, CntSt.init, CntSt.step, CntInv.init, WhlSt.init, WhlSt.step]; done) | (simp [LstSt.init, LstSt.step, LstInv.init, CntSt.init, CntSt.step, CntInv.init, WhlSt.init, WhlSt.step]; omega))⟩, rfl, rfl, ⟨rfl, trivial⟩, rfl, rfl, rfl, trivial⟩, ⟨⟨rfl, rfl, rfl⟩, trivial⟩, ⟨⟨rfl, rfl, rfl, rfl, by (first | rfl | omega | (dsimp only; omega) | (simp; done) | (simp; omega) | (simp [LstSt.init, LstSt.step, LstInv.init, CntSt.init, CntSt.step, CntInv.init, WhlSt.init, WhlSt.step]; done) | (simp [LstSt.init, LstSt.step, LstInv.init, CntSt.init, CntSt.step, CntInv.init, WhlSt.init, WhlSt.step]; omega))⟩, trivial⟩⟩⟩
          have q7 : (Srt (fun _ => True) x7.s ∧ x7.s.length = p0.length) := j7_ok (cmp := impl_OpenTrails_1) (s6 := x6.s) (a := p1) (m := p2) (b := p3) (N := p0.length) (s := p0) hs.2.1 hs.2.2.1 hs.2.2.2.1 hs.2.2.2.2 hs.1.2 (by omega) (by omega) (by omega) ⟨hs.1.1, rfl⟩ x7.e
          refine joinE hg [3, 4, 18, 24] (fun x8 => [(0, .one (.n 1 [] 1 0 (x8.s).length))]) (fun x8 => [.dead, .new ⟨4, false, List.map (Trail.cells false) x8.s, 0⟩, .dead, .dead]) (fun hb8 => ?_) (fun x8 hg => ?_)
          · have hb8 := hb8.trans (slices_symMergeCmpFunc_Trail_c_impl_OpenTrails_1_z_j8.eq_1 ..)
            refine seqE ?_
            refine brD hb8 (fun hb8 h28 => ?_) (fun hb8 h28 => .inl ⟨⟨_, hb8⟩, [none, some 1, none, none], ⟨rfl, ⟨⟨rfl, rfl, rfl, rfl, by (first | rfl | omega | (dsimp only; omega) | (simp; done) | (simp; omega) | (simp [LstSt.init, LstSt.step, LstInv.init, CntSt.init, CntSt.step, CntInv.init, WhlSt.init, WhlSt.step]; done) | (simp [LstSt.init, LstSt.step, LstInv.init, CntSt.init, CntSt.step, CntInv.init, WhlSt.init, WhlSt.step]; omega))⟩, rfl, ⟨rfl, trivial⟩, rfl, rfl, trivial⟩, ⟨⟨rfl, rfl, rfl⟩, trivial⟩, ⟨⟨rfl, rfl, rfl, rfl, by (first | rfl | omega | (dsimp only; omega) | (simp; done) | (simp; omega) | (simp [LstSt.init, LstSt.step, LstInv.init, CntSt.init, CntSt.step, CntInv.init, WhlSt.init, WhlSt.step]; done) | (simp [LstSt.init, LstSt.step, LstInv.init, CntSt.init, CntSt.step, CntInv.init, WhlSt.init, WhlSt.step]; omega))⟩, trivial⟩⟩⟩)
            refine brD hb8 (fun hb8 h29 => ?_) (fun hb8 h29 => .inl ⟨⟨_, hb8⟩, [none, some 1, none, none], ⟨rfl, ⟨⟨rfl, rfl, rfl, rfl, by (first | rfl | omega | (dsimp only; omega) | (simp; done) | (simp; omega) | (simp [LstSt.init, LstSt.step, LstInv.init, CntSt.init, CntSt.step, CntInv.init, WhlSt.init, WhlSt.step]; done) | (simp [LstSt.init, LstSt.step, LstInv.init, CntSt.init, CntSt.step, CntInv.init, WhlSt.init, WhlSt.step]; omega))⟩, rfl, ⟨rfl, trivial⟩, rfl, rfl, trivial⟩, ⟨⟨rfl, rfl, rfl⟩, trivial⟩, ⟨⟨rfl, rfl, rfl, rfl, by (first | rfl | omega | (dsimp only; omega) | (simp; done) | (simp; omega) | (simp [LstSt.init, LstSt.step, LstInv.init, CntSt.init, CntSt.step, CntInv.init, WhlSt.init, WhlSt.step]; done) | (simp [LstSt.init, LstSt.step, LstInv.init, CntSt.init, CntSt.step, CntInv.init, WhlSt.init, WhlSt.step]; omega))⟩, trivial⟩⟩⟩)
            refine .inr ⟨0, _, _, _, ih x7.s p1 x6.s.1 (IntKind.i64.wrap (iShr .u64 (IntKind.u64.wrap (IntKind.i64.wrap (p1 + p3))) 1)) (by (first | omega | (dsimp only <;> omega) | (simp (disch := omega) only [wrap_small, mid_eq, mid_eq1, mid_eq2, mid_eq3, List.length_map, List.length_set] <;> omega) | (simp (disch := omega) only [wrap_small, mid_eq, mid_eq1, mid_eq2, mid_eq3, List.length_map, List.length_set] at * <;> omega))) (by first | exact Srt.get hs.1.1 (by (first | omega | (dsimp only <;> omega) | (simp (disch := omega) only [wrap_small, mid_eq, mid_eq1, mid_eq2, mid_eq3, List.length_map, List.length_set] <;> omega) | (simp (disch := omega) only [wrap_small, mid_eq, mid_eq1, mid_eq2, mid_eq3, List.length_map, List.length_set] at * <;> omega))) | exact ⟨⟨hs.1.1, by (first | omega | (dsimp only <;> omega) | (simp (disch := omega) only [wrap_small, mid_eq, mid_eq1, mid_eq2, mid_eq3, List.length_map, List.length_set] <;> omega) | (simp (disch := omega) only [wrap_small, mid_eq, mid_eq1, mid_eq2, mid_eq3, List.length_map, List.length_set] at * <;> omega))⟩, by (first | omega | (dsimp only <;> omega) | (simp (disch := omega) only [wrap_small, mid_eq, mid_eq1, mid_eq2, mid_eq3, List.length_map, List.length_set] <;> omega) | (simp (disch := omega) only [wrap_small, mid_eq, mid_eq1, mid_eq2, mid_eq3, List.length_map, List.length_set] at * <;> omega)), by (first | omega | (dsimp only <;> omega) | (simp (disch := omega) only [wrap_small, mid_eq, mid_eq1, mid_eq2, mid_eq3, List.length_map, List.length_set] <;> omega) | (simp (disch := omega) only [wrap_small, mid_eq, mid_eq1, mid_eq2, mid_eq3, List.length_map, List.length_set] at * <;> omega)), by (first | omega | (dsimp only <;> omega) | (simp (disch := omega) only [wrap_small, mid_eq, mid_eq1, mid_eq2, mid_eq3, List.length_map, List.length_set] <;> omega) | (simp (disch := omega) only [wrap_small, mid_eq, mid_eq1, mid_eq2, mid_eq3, List.length_map, List.length_set] at * <;> omega)), by (first | omega | (dsimp only <;> omega) | (simp (disch := omega) only [wrap_small, mid_eq, mid_eq1, mid_eq2, mid_eq3, List.length_map, List.length_set] <;> omega) | (simp (disch := omega) only [wrap_small, mid_eq, mid_eq1, mid_eq2, mid_eq3, List.length_map, List.length_set] at * <;> omega))⟩ | exact ⟨⟨q8.1, by (first | omega | (dsimp only <;> omega) | (simp (disch := omega) only [wrap_small, mid_eq, mid_eq1, mid_eq2, mid_eq3, List.length_map, List.length_set] <;> omega) | (simp (disch := omega) only [wrap_small, mid_eq, mid_eq1, mid_eq2, mid_eq3, List.length_map, List.length_set] at * <;> omega))⟩, by (first | omega | (dsimp only <;> omega) | (simp (disch := omega) only [wrap_small, mid_eq, mid_eq1, mid_eq2, mid_eq3, List.length_map, List.length_set] <;> omega) | (simp (disch := omega) only [wrap_small, mid_eq, mid_eq1, mid_eq2, mid_eq3, List.length_map, List.length_set] at * <;> omega)), by (first | omega | (dsimp only <;> omega) | (simp (disch := omega) only [wrap_small, mid_eq, mid_eq1, mid_eq2, mid_eq3, List.length_map, List.length_set] <;> omega) | (simp (disch := omega) only [wrap_small, mid_eq, mid_eq1, mid_eq2, mid_eq3, List.length_map, List.length_set] at * <;> omega)), by (first | omega | (dsimp only <;> omega) | (simp (disch := omega) only [wrap_small, mid_eq, mid_eq1, mid_eq2, mid_eq3, List.length_map, List.length_set] <;> omega) | (simp (disch := omega) only [wrap_small, mid_eq, mid_eq1, mid_eq2, mid_eq3, List.length_map, List.length_set] at * <;> omega)), by (first | omega | (dsimp only <;> omega) | (simp (disch := omega) only [wrap_small, mid_eq, mid_eq1, mid_eq2, mid_eq3, List.length_map, List.length_set] <;> omega) | (simp (disch := omega) only [wrap_small, mid_eq, mid_eq1, mid_eq2, mid_eq3, List.length_map, List.length_set] at * <;> omega))⟩ | exact ⟨⟨q7.1, by (first | omega | (dsimp only <;> omega) | (simp (disch := omega) only [wrap_small, mid_eq, mid_eq1, mid_eq2, mid_eq3, List.length_map, List.length_set] <;> omega) | (simp (disch := omega) only [wrap_small, mid_eq, mid_eq1, mid_eq2, mid_eq3, List.length_map, List.length_set] at * <;> omega))⟩, by (first | omega | (dsimp only <;> omega) | (simp (disch := omega) only [wrap_small, mid_eq, mid_eq1, mid_eq2, mid_eq3, List.length_map, List.length_set] <;> omega) | (simp (disch := omega) only [wrap_small, mid_eq, mid_eq1, mid_eq2, mid_eq3, List.length_map, List.length_set] at * <;> omega)), by (first | omega | (dsimp only <;> omega) | (simp (disch := omega) only [wrap_small, mid_eq, mid_eq1, mid_eq2, mid_eq3, List.length_map, List.length_set] <;> omega) | (simp (disch := omega) only [wrap_small, mid_eq, mid_eq1, mid_eq2, mid_eq3, List.length_map, List.length_set] at * <;> omega)), by (first | omega | (dsimp only <;> omega) | (simp (disch := omega) only [wrap_small, mid_eq, mid_eq1, mid_eq2, mid_eq3, List.length_map, List.length_set] <;> omega) | (simp (disch := omega) only [wrap_small, mid_eq, mid_eq1, mid_eq2, mid_eq3, List.length_map, List.length_set] at * <;> omega)), by (first | omega | (dsimp only <;> omega) | (simp (disch := omega) only [wrap_small, mid_eq, mid_eq1, mid_eq2, mid_eq3, List.length_map, List.length_set] <;> omega) | (simp (disch := omega) only [wrap_small, mid_eq, mid_eq1, mid_eq2, mid_eq3, List.length_map, List.length_set] at * <;> omega))⟩), (FzAs.same _), .inl ?_⟩
            refine litE (m := 4) rfl ?_
            have hz30 := len_slices_symMergeCmpFunc_Trail_c_impl_OpenTrails_1_zR n x7.s p1 x6.s.1 (IntKind.i64.wrap (iShr .u64 (IntKind.u64.wrap (IntKind.i64.wrap (p1 + p3))) 1))
            exact .inl ⟨⟨_, hb8⟩, [none, some 1, none, none], ⟨rfl, ⟨⟨rfl, rfl, rfl, rfl, by (first | rfl | omega | (dsimp only; omega) | (simp; done) | (simp; omega) | (simp [LstSt.init, LstSt.step, LstInv.init, CntSt.init, CntSt.step, CntInv.init, WhlSt.init, WhlSt.step]; done) | (simp [LstSt.init, LstSt.step, LstInv.init, CntSt.init, CntSt.step, CntInv.init, WhlSt.init, WhlSt.step]; omega))⟩, rfl, ⟨rfl, trivial⟩, rfl, rfl, trivial⟩, ⟨⟨rfl, rfl, rfl⟩, trivial⟩, ⟨⟨rfl, rfl, rfl, rfl, by (first | rfl | omega | (dsimp only; omega) | (simp; done) | (simp; omega) | (simp [LstSt.init, LstSt.step, LstInv.init, CntSt.init, CntSt.step, CntInv.init, WhlSt.init, WhlSt.step]; done) | (simp [LstSt.init, LstSt.step, LstInv.init, CntSt.init, CntSt.step, CntInv.init, WhlSt.init, WhlSt.step]; omega))⟩, trivial⟩⟩⟩
          have q8 : (Srt (fun _ => True) x8.s ∧ x8.s.length = p0.length) := j8_ok (cmp := impl_OpenTrails_1) (rf := fun l a m b _ => slices_symMergeCmpFunc_Trail_c_impl_OpenTrails_1_zR n l a m b) (s6 := x6.s) (a := p1) (b := p3) (N := p0.length) (s := x7.s) hs.2.1 (by omega) hs.2.2.2.2 hs.1.2 (by omega) q7 (fun m b h1 h2 h3 => by rw [e_slices_symMergeCmpFunc_Trail_c_impl_OpenTrails_1_zR]; exact sz_symR q7 hs.2.1 h1 h2 (by omega) hs.1.2 (by omega)) x8.e
          refine seqE ?_
          refine brD hg (fun hg h31 => ?_) (fun hg h31 => leafM hown hg)
          refine brD hg (fun hg h32 => ?_) (fun hg h32 => leafM hown hg)
          refine .inr ⟨0, _, _, _, ih x8.s (IntKind.i64.wrap (iShr .u64 (IntKind.u64.wrap (IntKind.i64.wrap (p1 + p3))) 1)) (IntKind.i64.wrap ((IntKind.i64.wrap ((IntKind.i64.wrap (iShr .u64 (IntKind.u64.wrap (IntKind.i64.wrap (p1 + p3))) 1)) + p2)) - x6.s.1)) p3 (by (first | omega | (dsimp only <;> omega) | (simp (disch := omega) only [wrap_small, mid_eq, mid_eq1, mid_eq2, mid_eq3, List.length_map, List.length_set] <;> omega) | (simp (disch := omega) only [wrap_small, mid_eq, mid_eq1, mid_eq2, mid_eq3, List.length_map, List.length_set] at * <;> omega))) (by first | exact Srt.get hs.1.1 (by (first | omega | (dsimp only <;> omega) | (simp (disch := omega) only [wrap_small, mid_eq, mid_eq1, mid_eq2, mid_eq3, List.length_map, List.length_set] <;> omega) | (simp (disch := omega) only [wrap_small, mid_eq, mid_eq1, mid_eq2, mid_eq3, List.length_map, List.length_set] at * <;> omega))) | exact ⟨⟨hs.1.1, by (first | omega | (dsimp only <;> omega) | (simp (disch := omega) only [wrap_small, mid_eq, mid_eq1, mid_eq2, mid_eq3, List.length_map, List.length_set] <;> omega) | (simp (disch := omega) only [wrap_small, mid_eq, mid_eq1, mid_eq2, mid_eq3, List.length_map, List.length_set] at * <;> omega))⟩, by (first | omega | (dsimp only <;> omega) | (simp (disch := omega) only [wrap_small, mid_eq, mid_eq1, mid_eq2, mid_eq3, List.length_map, List.length_set] <;> omega) | (simp (disch := omega) only [wrap_small, mid_eq, mid_eq1, mid_eq2, mid_eq3, List.length_map, List.length_set] at * <;> omega)), by (first | omega | (dsimp only <;> omega) | (simp (disch := omega) only [wrap_small, mid_eq, mid_eq1, mid_eq2, mid_eq3, List.length_map, List.length_set] <;> omega) | (simp (disch := omega) only [wrap_small, mid_eq, mid_eq1, mid_eq2, mid_eq3, List.length_map, List.length_set] at * <;> omega)), by (first | omega | (dsimp only <;> omega) | (simp (disch := omega) only [wrap_small, mid_eq, mid_eq1, mid_eq2, mid_eq3, List.length_map, List.length_set] <;> omega) | (simp (disch := omega) only [wrap_small, mid_eq, mid_eq1, mid_eq2, mid_eq3, List.length_map, List.length_set] at * <;> omega)), by (first | omega | (dsimp only <;> omega) | (simp (disch := omega) only [wrap_small, mid_eq, mid_eq1, mid_eq2, mid_eq3, List.length_map, List.length_set] <;> omega) | (simp (disch := omega) only [wrap_small, mid_eq, mid_eq1, mid_eq2, mid_eq3, List.length_map, List.length_set] at * <;> omega))⟩ | exact ⟨⟨q8.1, by (first | omega | (dsimp only <;> omega) | (simp (disch := omega) only [wrap_small, mid_eq, mid_eq1, mid_eq2, mid_eq3, List.length_map, List.length_set] <;> omega) | (simp (disch := omega) only [wrap_small, mid_eq, mid_eq1, mid_eq2, mid_eq3, List.length_map, List.length_set] at * <;> omega))⟩, by (first | omega | (dsimp only <;> omega) | (simp (disch := omega) only [wrap_small, mid_eq, mid_eq1, mid_eq2, mid_eq3, List.length_map, List.length_set] <;> omega) | (simp (disch := omega) only [wrap_small, mid_eq, mid_eq1, mid_eq2, mid_eq3, List.length_map, List.length_set] at * <;> omega)), by (first | omega | (dsimp only <;> omega) | (simp (disch := omega) only [wrap_small, mid_eq, mid_eq1, mid_eq2, mid_eq3, List.length_map, List.length_set] <;> omega) | (simp (disch := omega) only [wrap_small, mid_eq, mid_eq1, mid_eq2, mid_eq3, List.length_map, List.length_set] at * <;> omega)), by (first | omega | (dsimp only <;> omega) | (simp (disch := omega) only [wrap_small, mid_eq, mid_eq1, mid_eq2, mid_eq3, List.length_map, List.length_set] <;> omega) | (simp (disch := omega) only [wrap_small, mid_eq, mid_eq1, mid_eq2, mid_eq3, List.length_map, List.length_set] at * <;> omega)), by (first | omega | (dsimp only <;> omega) | (simp (disch := omega) only [wrap_small, mid_eq, mid_eq1, mid_eq2, mid_eq3, List.length_map, List.length_set] <;> omega) | (simp (disch := omega) only [wrap_small, mid_eq, mid_eq1, mid_eq2, mid_eq3, List.length_map, List.length_set] at * <;> omega))⟩ | exact ⟨⟨q7.1, by (first | omega | (dsimp only <;> omega) | (simp (disch := omega) only [wrap_small, mid_eq, mid_eq1, mid_eq2, mid_eq3, List.length_map, List.length_set] <;> omega) | (simp (disch := omega) only [wrap_small, mid_eq, mid_eq1, mid_eq2, mid_eq3, List.length_map, List.length_set] at * <;> omega))⟩, by (first | omega | (dsimp only <;> omega) | (simp (disch := omega) only [wrap_small, mid_eq, mid_eq1, mid_eq2, mid_eq3, List.length_map, List.length_set] <;> omega) | (simp (disch := omega) only [wrap_small, mid_eq, mid_eq1, mid_eq2, mid_eq3, List.length_map, List.length_set] at * <;> omega)), by (first | omega | (dsimp only <;> omega) | (simp (disch := omega) only [wrap_small, mid_eq, mid_eq1, mid_eq2, mid_eq3, List.length_map, List.length_set] <;> omega) | (simp (disch := omega) only [wrap_small, mid_eq, mid_eq1, mid_eq2, mid_eq3, List.length_map, List.length_set] at * <;> omega)), by (first | omega | (dsimp only <;> omega) | (simp (disch := omega) only [wrap_small, mid_eq, mid_eq1, mid_eq2, mid_eq3, List.length_map, List.length_set] <;> omega) | (simp (disch := omega) only [wrap_small, mid_eq, mid_eq1, mid_eq2, mid_eq3, List.length_map, List.length_set] at * <;> omega)), by (first | omega | (dsimp only <;> omega) | (simp (disch := omega) only [wrap_small, mid_eq, mid_eq1, mid_eq2, mid_eq3, List.length_map, List.length_set] <;> omega) | (simp (disch := omega) only [wrap_small, mid_eq, mid_eq1, mid_eq2, mid_eq3, List.length_map, List.length_set] at * <;> omega))⟩), (FzAs.same _), .inl ?_⟩
          refine litE (m := 5) rfl ?_
          have hz33 := len_slices_symMergeCmpFunc_Trail_c_impl_OpenTrails_1_zR n x8.s (IntKind.i64.wrap (iShr .u64 (IntKind.u64.wrap (IntKind.i64.wrap (p1 + p3))) 1)) (IntKind.i64.wrap ((IntKind.i64.wrap ((IntKind.i64.wrap (iShr .u64 (IntKind.u64.wrap (IntKind.i64.wrap (p1 + p3))) 1)) + p2)) - x6.s.1)) p3
          exact leafM hown hg
def slices_symMergeCmpFunc_Trail_c_impl_OpenTrails_1_z (p0 : (List Trail)) (p1 : Int) (p2 : Int) (p3 : Int) : (List Trail) := slices_symMergeCmpFunc_Trail_c_impl_OpenTrails_1_zR ((p3 - p1).toNat + 1) p0 p1 p2 p3
theorem c_slices_symMergeCmpFunc_Trail_c_impl_OpenTrails_1_z (p0 : (List Trail)) (p1 : Int) (p2 : Int) (p3 : Int) (hs : (Srt (fun _ => True) p0 ∧ p0.length ≤ 288230376151711744) ∧ 0 ≤ p1 ∧ p1 < p2 ∧ p2 < p3 ∧ p3 ≤ ((p0.length : Nat) : Int)) : FnOk prog 130 [.tup [.one (.s true 4 (List.map (Trail.cells false) p0))], .one (.v (.int .i64 p1)), .one (.v (.int .i64 p2)), .one (.v (.int .i64 p3)), .one (.c 84 [])] ⟨.tup [], [.one (.s true 4 (List.map (Trail.cells false) ((slices_symMergeCmpFunc_Trail_c_impl_OpenTrails_1_z p0 p1 p2 p3))))], [], false⟩ := cR_slices_symMergeCmpFunc_Trail_c_impl_OpenTrails_1_z _ p0 p1 p2 p3 (Nat.lt_succ_self _) hs
theorem e_slices_symMergeCmpFunc_Trail_c_impl_OpenTrails_1_z (p0 : List Trail) (p1 p2 p3 : Int) : slices_symMergeCmpFunc_Trail_c_impl_OpenTrails_1_z p0 p1 p2 p3 = g_symMerge p0 p1 p2 p3 impl_OpenTrails_1 := e_slices_symMergeCmpFunc_Trail_c_impl_OpenTrails_1_zR _ _ _ _ _
theorem len_slices_symMergeCmpFunc_Trail_c_impl_OpenTrails_1_z (p0 : List Trail) (p1 p2 p3 : Int) : (slices_symMergeCmpFunc_Trail_c_impl_OpenTrails_1_z p0 p1 p2 p3).length = p0.length := by rw [e_slices_symMergeCmpFunc_Trail_c_impl_OpenTrails_1_z]; exact len_g_sym ..
def slices_stableCmpFunc_Trail_c_impl_OpenTrails_1_z_b3 (p1 : Int) (s2 : (List Trail) × Int) (s3 : (List Trail) × Int × Int) : Step ((List Trail) × Int × Int) (Step ((List Trail) × Int) (List Trail)) :=
  (bif (decide (s3.2.2 ≤ p1)) then (.next ((slices_symMergeCmpFunc_Trail_c_impl_OpenTrails_1_z s3.1 s3.2.1 (IntKind.i64.wrap (s3.2.1 + s2.2)) s3.2.2), s3.2.2, (IntKind.i64.wrap (s3.2.2 + (IntKind.i64.wrap (2 * s2.2)))))) else (.stop (s3.1, s3.2.1, s3.2.2)))
def slices_stableCmpFunc_Trail_c_impl_OpenTrails_1_z_b2 (p1 : Int) (s2 : (List Trail) × Int) : Step ((List Trail) × Int) (List Trail) :=
  (bif (decide (s2.2 < p1)) then (Fin.get (fun s3 => (bif (decide ((IntKind.i64.wrap (s3.2.1 + s2.2)) < p1)) then (.next ((slices_symMergeCmpFunc_Trail_c_impl_OpenTrails_1_z s3.1 s3.2.1 (IntKind.i64.wrap (s3.2.1 + s2.2)) p1), (IntKind.i64.wrap (s2.2 * 2)))) else (.next (s3.1, (IntKind.i64.wrap (s2.2 * 2)))))) (loopW (slices_stableCmpFunc_Trail_c_impl_OpenTrails_1_z_b3 p1 s2) ((fun s : (List Trail) × Int × Int => (p1 + 1 - s.2.2).toNat) (s2.1, 0, (IntKind.i64.wrap (2 * s2.2)))) (s2.1, 0, (IntKind.i64.wrap (2 * s2.2))))) else (.stop (s2.1, s2.2)))
def slices_stableCmpFunc_Trail_c_impl_OpenTrails_1_z_b1 (p1 : Int) (s1 : (List Trail) × Int × Int) : Step ((List Trail) × Int × Int) (List Trail) :=
  (bif (decide (s1.2.2 ≤ p1)) then (.next ((slices_insertionSortCmpFunc_Trail_c_impl_OpenTrails_1_z s1.1 s1.2.1 s1.2.2), s1.2.2, (IntKind.i64.wrap (s1.2.2 + 20)))) else (.stop (s1.1, s1.2.1, s1.2.2)))
def slices_stableCmpFunc_Trail_c_impl_OpenTrails_1_z (p0 : (List Trail)) (p1 : Int) : (List Trail) :=
  (Fin.get (fun s1 => (Fin.get (fun s2 => s2.1) (loopW (slices_stableCmpFunc_Trail_c_impl_OpenTrails_1_z_b2 p1) ((fun s : (List Trail) × Int => (p1 - s.2).toNat) ((slices_insertionSortCmpFunc_Trail_c_impl_OpenTrails_1_z s1.1 s1.2.1 p1), 20)) ((slices_insertionSortCmpFunc_Trail_c_impl_OpenTrails_1_z s1.1 s1.2.1 p1), 20)))) (loopW (slices_stableCmpFunc_Trail_c_impl_OpenTrails_1_z_b1 p1) ((fun s : (List Trail) × Int × Int => (p1 + 1 - s.2.2).toNat) (p0, 0, 20)) (p0, 0, 20)))
theorem c_slices_stableCmpFunc_Trail_c_impl_OpenTrails_1_z (p0 : (List Trail)) (p1 : Int) (hs : (Srt (fun _ => True) p0 ∧ p0.length ≤ 288230376151711744) ∧ p1 = ((p0.length : Nat) : Int)) : FnOk prog 118 [.tup [.one (.s true 4 (List.map (Trail.cells false) p0))], .one (.v (.int .i64 p1)), .one (.c 84 [])] ⟨.tup [], [.one (.s true 4 (List.map (Trail.cells false) ((slices_stableCmpFunc_Trail_c_impl_OpenTrails_1_z p0 p1))))], [], false⟩ := by
  refine FnOk.introM (E := env) envOk wide func118 rfl (by kernel_rfl) rfl ?_
  have hg := slices_stableCmpFunc_Trail_c_impl_OpenTrails_1_z.eq_1 p0 p1
  have hown : (∀ g : (List Trail), AV.Own (AV.tup [])) ∧ (fun g : (List Trail) => T.s true 4 (List.map (Trail.cells false) (g))) = _ := ⟨fun g => trivial, rfl⟩
  refine seqE ?_
  refine seqE ?_
  refine seqE ?_
  refine loopWE (m := (fun s : (List Trail) × Int × Int => (p1 + 1 - s.2.2).toNat)) (s0 := (p0, 0, 20)) (fun s : (List Trail) × Int × Int => (Srt (fun _ => True) s.1 ∧ s.1.length = p0.length) ∧ 0 ≤ s.2.1 ∧ s.2.2 = s.2.1 + 20 ∧ s.2.1 ≤ p1) hg (by exact ⟨⟨hs.1.1, rfl⟩, by (first | omega | (dsimp only <;> omega) | (simp (disch := omega) only [wrap_small, mid_eq, mid_eq1, mid_eq2, mid_eq3, List.length_map, List.length_set] <;> omega) | (simp (disch := omega) only [wrap_small, mid_eq, mid_eq1, mid_eq2, mid_eq3, List.length_map, List.length_set] at * <;> omega)), by (first | omega | (dsimp only <;> omega) | (simp (disch := omega) only [wrap_small, mid_eq, mid_eq1, mid_eq2, mid_eq3, List.length_map, List.length_set] <;> omega) | (simp (disch := omega) only [wrap_small, mid_eq, mid_eq1, mid_eq2, mid_eq3, List.length_map, List.length_set] at * <;> omega)), by (first | omega | (dsimp only <;> omega) | (simp (disch := omega) only [wrap_small, mid_eq, mid_eq1, mid_eq2, mid_eq3, List.length_map, List.length_set] <;> omega) | (simp (disch := omega) only [wrap_small, mid_eq, mid_eq1, mid_eq2, mid_eq3, List.length_map, List.length_set] at * <;> omega))⟩) [0, 1, 2, 6] (fun x1 => [(7, .one (.v (.int .i64 x1.s.2.1))), (8, .one (.v (.int .i64 x1.s.2.2)))]) (fun x1 => [.dead, .new ⟨4, false, List.map (Trail.cells false) x1.s.1, 0⟩]) [none, some 1] ?_ (fun x1 => ?_)
  · exact ⟨rfl, ⟨rfl, rfl, ⟨rfl, rfl, rfl, rfl, by (first | rfl | omega | (dsimp only; omega) | (simp; done) | (simp; omega) | (simp [LstSt.init, LstSt.step, LstInv.init, CntSt.init, CntSt.step, CntInv.init, WhlSt.init, WhlSt.step]; done) | (simp [LstSt.init, LstSt.step, LstInv.init, CntSt.init, CntSt.step, CntInv.init, WhlSt.init, WhlSt.step]; omega))⟩, rfl, ⟨rfl, trivial⟩, rfl, trivial⟩, ⟨⟨rfl, rfl, rfl⟩, trivial⟩, ⟨⟨rfl, rfl, rfl, rfl, by (first | rfl | omega | (dsimp only; omega) | (simp; done) | (simp; omega) | (simp [LstSt.init, LstSt.step, LstInv.init, CntSt.init, CntSt.step, CntInv.init, WhlSt.init, WhlSt.step]; done) | (simp [LstSt.init, LstSt.step, LstInv.init, CntSt.init, CntSt.step, CntInv.init, WhlSt.init, WhlSt.step]; omega))⟩, trivial⟩⟩
  have hI1 := x1.hI
  try dsimp only at hI1
  have hb1 := x1.bdy.trans (slices_stableCmpFunc_Trail_c_impl_OpenTrails_1_z_b1.eq_1 ..)
  refine seqE ?_
  refine seqE ?_
  refine brD hb1 (fun hb1 h1 => ?_) (fun hb1 h1 => ?_)
  · refine seqE ?_
    refine .inr ⟨0, _, _, _, c_slices_insertionSortCmpFunc_Trail_c_impl_OpenTrails_1_z x1.s.1 x1.s.2.1 x1.s.2.2 (by first | exact ⟨⟨hI3.1.1, by (first | omega | (dsimp only <;> omega) | (simp (disch := omega) only [wrap_small, mid_eq, mid_eq1, mid_eq2, mid_eq3, List.length_map, List.length_set] <;> omega) | (simp (disch := omega) only [wrap_small, mid_eq, mid_eq1, mid_eq2, mid_eq3, List.length_map, List.length_set] at * <;> omega))⟩, by (first | omega | (dsimp only <;> omega) | (simp (disch := omega) only [wrap_small, mid_eq, mid_eq1, mid_eq2, mid_eq3, List.length_map, List.length_set] <;> omega) | (simp (disch := omega) only [wrap_small, mid_eq, mid_eq1, mid_eq2, mid_eq3, List.length_map, List.length_set] at * <;> omega)), by (first | omega | (dsimp only <;> omega) | (simp (disch := omega) only [wrap_small, mid_eq, mid_eq1, mid_eq2, mid_eq3, List.length_map, List.length_set] <;> omega) | (simp (disch := omega) only [wrap_small, mid_eq, mid_eq1, mid_eq2, mid_eq3, List.length_map, List.length_set] at * <;> omega)), by (first | omega | (dsimp only <;> omega) | (simp (disch := omega) only [wrap_small, mid_eq, mid_eq1, mid_eq2, mid_eq3, List.length_map, List.length_set] <;> omega) | (simp (disch := omega) only [wrap_small, mid_eq, mid_eq1, mid_eq2, mid_eq3, List.length_map, List.length_set] at * <;> omega)), by (first | omega | (dsimp only <;> omega) | (simp (disch := omega) only [wrap_small, mid_eq, mid_eq1, mid_eq2, mid_eq3, List.length_map, List.length_set] <;> omega) | (simp (disch := omega) only [wrap_small, mid_eq, mid_eq1, mid_eq2, mid_eq3, List.length_map, List.length_set] at * <;> omega))⟩ | exact ⟨⟨hI1.1.1, by (first | omega | (dsimp only <;> omega) | (simp (disch := omega) only [wrap_small, mid_eq, mid_eq1, mid_eq2, mid_eq3, List.length_map, List.length_set] <;> omega) | (simp (disch := omega) only [wrap_small, mid_eq, mid_eq1, mid_eq2, mid_eq3, List.length_map, List.length_set] at * <;> omega))⟩, by (first | omega | (dsimp only <;> omega) | (simp (disch := omega) only [wrap_small, mid_eq, mid_eq1, mid_eq2, mid_eq3, List.length_map, List.length_set] <;> omega) | (simp (disch := omega) only [wrap_small, mid_eq, mid_eq1, mid_eq2, mid_eq3, List.length_map, List.length_set] at * <;> omega)), by (first | omega | (dsimp only <;> omega) | (simp (disch := omega) only [wrap_small, mid_eq, mid_eq1, mid_eq2, mid_eq3, List.length_map, List.length_set] <;> omega) | (simp (disch := omega) only [wrap_small, mid_eq, mid_eq1, mid_eq2, mid_eq3, List.length_map, List.length_set] at * <;> omega)), by (first | omega | (dsimp only <;> omega) | (simp (disch := omega) only [wrap_small, mid_eq, mid_eq1, mid_eq2, mid_eq3, List.length_map, List.length_set] <;> omega) | (simp (disch := omega) only [wrap_small, mid_eq, mid_eq1, mid_eq2, mid_eq3, List.length_map, List.length_set] at * <;> omega))⟩), (FzAs.same _), .inl ?_⟩
    refine litE (m := 3) rfl ?_
    have hz2 := len_slices_insertionSortCmpFunc_Trail_c_impl_OpenTrails_1_z x1.s.1 x1.s.2.1 x1.s.2.2
    refine seqE ?_
    exact x1.goE hb1 (show (fun s : (List Trail) × Int × Int => (Srt (fun _ => True) s.1 ∧ s.1.length = p0.length) ∧ 0 ≤ s.2.1 ∧ s.2.2 = s.2.1 + 20 ∧ s.2.1 ≤ p1) ((slices_insertionSortCmpFunc_Trail_c_impl_OpenTrails_1_z x1.s.1 x1.s.2.1 x1.s.2.2), x1.s.2.2, (IntKind.i64.wrap (x1.s.2.2 + 20))) ∧ (fun s : (List Trail) × Int × Int => (p1 + 1 - s.2.2).toNat) ((slices_insertionSortCmpFunc_Trail_c_impl_OpenTrails_1_z x1.s.1 x1.s.2.1 x1.s.2.2), x1.s.2.2, (IntKind.i64.wrap (x1.s.2.2 + 20))) < (fun s : (List Trail) × Int × Int => (p1 + 1 - s.2.2).toNat) x1.s by refine ⟨⟨?_, by (first | omega | (dsimp only <;> omega) | (simp (disch := omega) only [wrap_small, mid_eq, mid_eq1, mid_eq2, mid_eq3, List.length_map, List.length_set] <;> omega) | (simp (disch := omega) only [wrap_small, mid_eq, mid_eq1, mid_eq2, mid_eq3, List.length_map, List.length_set] at * <;> omega)), by (first | omega | (dsimp only <;> omega) | (simp (disch := omega) only [wrap_small, mid_eq, mid_eq1, mid_eq2, mid_eq3, List.length_map, List.length_set] <;> omega) | (simp (disch := omega) only [wrap_small, mid_eq, mid_eq1, mid_eq2, mid_eq3, List.length_map, List.length_set] at * <;> omega)), by (first | omega | (dsimp only <;> omega) | (simp (disch := omega) only [wrap_small, mid_eq, mid_eq1, mid_eq2, mid_eq3, List.length_map, List.length_set] <;> omega) | (simp (disch := omega) only [wrap_small, mid_eq, mid_eq1, mid_eq2, mid_eq3, List.length_map, List.length_set] at * <;> omega))⟩, by (first | omega | (dsimp only <;> omega) | (simp (disch := omega) only [wrap_small, mid_eq, mid_eq1, mid_eq2, mid_eq3, List.length_map, List.length_set] <;> omega) | (simp (disch := omega) only [wrap_small, mid_eq, mid_eq1, mid_eq2, mid_eq3, List.length_map, List.length_set] at * <;> omega))⟩; (show Sz _ p0.length _); dsimp only; rw [e_slices_insertionSortCmpFunc_Trail_c_impl_OpenTrails_1_z]; exact sz_ins (N := p0.length) hI1.1 (by (first | omega | (dsimp only <;> omega) | (simp (disch := omega) only [wrap_small, mid_eq, mid_eq1, mid_eq2, mid_eq3, List.length_map, List.length_set] <;> omega) | (simp (disch := omega) only [wrap_small, mid_eq, mid_eq1, mid_eq2, mid_eq3, List.length_map, List.length_set] at * <;> omega))) (by (first | omega | (dsimp only <;> omega) | (simp (disch := omega) only [wrap_small, mid_eq, mid_eq1, mid_eq2, mid_eq3, List.length_map, List.length_set] <;> omega) | (simp (disch := omega) only [wrap_small, mid_eq, mid_eq1, mid_eq2, mid_eq3, List.length_map, List.length_set] at * <;> omega))) (by (first | omega | (dsimp only <;> omega) | (simp (disch := omega) only [wrap_small, mid_eq, mid_eq1, mid_eq2, mid_eq3, List.length_map, List.length_set] <;> omega) | (simp (disch := omega) only [wrap_small, mid_eq, mid_eq1, mid_eq2, mid_eq3, List.length_map, List.length_set] at * <;> omega))) (by omega)) [none, some 1] ⟨rfl, ⟨rfl, rfl, ⟨rfl, rfl, rfl, rfl, by (first | rfl | omega | (dsimp only; omega) | (simp; done) | (simp; omega) | (simp [LstSt.init, LstSt.step, LstInv.init, CntSt.init, CntSt.step, CntInv.init, WhlSt.init, WhlSt.step]; done) | (simp [LstSt.init, LstSt.step, LstInv.init, CntSt.init, CntSt.step, CntInv.init, WhlSt.init, WhlSt.step]; omega))⟩, rfl, ⟨rfl, trivial⟩, rfl, trivial⟩, ⟨⟨rfl, rfl, rfl⟩, trivial⟩, ⟨⟨rfl, rfl, rfl, rfl, by (first | rfl | omega | (dsimp only; omega) | (simp; done) | (simp; omega) | (simp [LstSt.init, LstSt.step, LstInv.init, CntSt.init, CntSt.step, CntInv.init, WhlSt.init, WhlSt.step]; done) | (simp [LstSt.init, LstSt.step, LstInv.init, CntSt.init, CntSt.step, CntInv.init, WhlSt.init, WhlSt.step]; omega))⟩, trivial⟩⟩
  · have hg := finE hg (x1.outS hb1)
    refine seqE ?_
    refine .inr ⟨0, _, _, _, c_slices_insertionSortCmpFunc_Trail_c_impl_OpenTrails_1_z x1.s.1 x1.s.2.1 p1 (by first | exact ⟨⟨hI3.1.1, by (first | omega | (dsimp only <;> omega) | (simp (disch := omega) only [wrap_small, mid_eq, mid_eq1, mid_eq2, mid_eq3, List.length_map, List.length_set] <;> omega) | (simp (disch := omega) only [wrap_small, mid_eq, mid_eq1, mid_eq2, mid_eq3, List.length_map, List.length_set] at * <;> omega))⟩, by (first | omega | (dsimp only <;> omega) | (simp (disch := omega) only [wrap_small, mid_eq, mid_eq1, mid_eq2, mid_eq3, List.length_map, List.length_set] <;> omega) | (simp (disch := omega) only [wrap_small, mid_eq, mid_eq1, mid_eq2, mid_eq3, List.length_map, List.length_set] at * <;> omega)), by (first | omega | (dsimp only <;> omega) | (simp (disch := omega) only [wrap_small, mid_eq, mid_eq1, mid_eq2, mid_eq3, List.length_map, List.length_set] <;> omega) | (simp (disch := omega) only [wrap_small, mid_eq, mid_eq1, mid_eq2, mid_eq3, List.length_map, List.length_set] at * <;> omega)), by (first | omega | (dsimp only <;> omega) | (simp (disch := omega) only [wrap_small, mid_eq, mid_eq1, mid_eq2, mid_eq3, List.length_map, List.length_set] <;> omega) | (simp (disch := omega) only [wrap_small, mid_eq, mid_eq1, mid_eq2, mid_eq3, List.length_map, List.length_set] at * <;> omega)), by (first | omega | (dsimp only <;> omega) | (simp (disch := omega) only [wrap_small, mid_eq, mid_eq1, mid_eq2, mid_eq3, List.length_map, List.length_set] <;> omega) | (simp (disch := omega) only [wrap_small, mid_eq, mid_eq1, mid_eq2, mid_eq3, List.length_map, List.length_set] at * <;> omega))⟩ | exact ⟨⟨hI1.1.1, by (first | omega | (dsimp only <;> omega) | (simp (disch := omega) only [wrap_small, mid_eq, mid_eq1, mid_eq2, mid_eq3, List.length_map, List.length_set] <;> omega) | (simp (disch := omega) only [wrap_small, mid_eq, mid_eq1, mid_eq2, mid_eq3, List.length_map, List.length_set] at * <;> omega))⟩, by (first | omega | (dsimp only <;> omega) | (simp (disch := omega) only [wrap_small, mid_eq, mid_eq1, mid_eq2, mid_eq3, List.length_map, List.length_set] <;> omega) | (simp (disch := omega) only [wrap_small, mid_eq, mid_eq1, mid_eq2, mid_eq3, List.length_map, List.length_set] at * <;> omega)), by (first | omega | (dsimp only <;> omega) | (simp (disch := omega) only [wrap_small, mid_eq, mid_eq1, mid_eq2, mid_eq3, List.length_map, List.length_set] <;> omega) | (simp (disch := omega) only [wrap_small, mid_eq, mid_eq1, mid_eq2, mid_eq3, List.length_map, List.length_set] at * <;> omega)), by (first | omega | (dsimp only <;> omega) | (simp (disch := omega) only [wrap_small, mid_eq, mid_eq1, mid_eq2, mid_eq3, List.length_map, List.length_set] <;> omega) | (simp (disch := omega) only [wrap_small, mid_eq, mid_eq1, mid_eq2, mid_eq3, List.length_map, List.length_set] at * <;> omega))⟩), (FzAs.same _), .inl ?_⟩
    refine litE (m := 3) rfl ?_
    have hz3 := len_slices_insertionSortCmpFunc_Trail_c_impl_OpenTrails_1_z x1.s.1 x1.s.2.1 p1
    refine loopWE (m := (fun s : (List Trail) × Int => (p1 - s.2).toNat)) (s0 := ((slices_insertionSortCmpFunc_Trail_c_impl_OpenTrails_1_z x1.s.1 x1.s.2.1 p1), 20)) (fun s : (List Trail) × Int => (Srt (fun _ => True) s.1 ∧ s.1.length = p0.length) ∧ 0 < s.2 ∧ s.2 ≤ 576460752303423488) hg (by refine ⟨?_, by (first | omega | (dsimp only <;> omega) | (simp (disch := omega) only [wrap_small, mid_eq, mid_eq1, mid_eq2, mid_eq3, List.length_map, List.length_set] <;> omega) | (simp (disch := omega) only [wrap_small, mid_eq, mid_eq1, mid_eq2, mid_eq3, List.length_map, List.length_set] at * <;> omega)), by (first | omega | (dsimp only <;> omega) | (simp (disch := omega) only [wrap_small, mid_eq, mid_eq1, mid_eq2, mid_eq3, List.length_map, List.length_set] <;> omega) | (simp (disch := omega) only [wrap_small, mid_eq, mid_eq1, mid_eq2, mid_eq3, List.length_map, List.length_set] at * <;> omega))⟩; (show Sz _ p0.length _); dsimp only; rw [e_slices_insertionSortCmpFunc_Trail_c_impl_OpenTrails_1_z]; exact sz_ins (N := p0.length) hI1.1 (by (first | omega | (dsimp only <;> omega) | (simp (disch := omega) only [wrap_small, mid_eq, mid_eq1, mid_eq2, mid_eq3, List.length_map, List.length_set] <;> omega) | (simp (disch := omega) only [wrap_small, mid_eq, mid_eq1, mid_eq2, mid_eq3, List.length_map, List.length_set] at * <;> omega))) (by (first | omega | (dsimp only <;> omega) | (simp (disch := omega) only [wrap_small, mid_eq, mid_eq1, mid_eq2, mid_eq3, List.length_map, List.length_set] <;> omega) | (simp (disch := omega) only [wrap_small, mid_eq, mid_eq1, mid_eq2, mid_eq3, List.length_map, List.length_set] at * <;> omega))) (by (first | omega | (dsimp only <;> omega) | (simp (disch := omega) only [wrap_small, mid_eq, mid_eq1, mid_eq2, mid_eq3, List.length_map, List.length_set] <;> omega) | (simp (disch := omega) only [wrap_small, mid_eq, mid_eq1, mid_eq2, mid_eq3, List.length_map, List.length_set] at * <;> omega))) (by omega)) [0, 1, 2] (fun x2 => [(6, .one (.v (.int .i64 x2.s.2)))]) (fun x2 => [.dead, .new ⟨4, false, List.map (Trail.cells false) x2.s.1, 0⟩, .dead]) [none, some 1, none] ?_ (fun x2 => ?_)
    · exact ⟨rfl, ⟨rfl, ⟨rfl, rfl, rfl, rfl, by (first | rfl | omega | (dsimp only; omega) | (simp; done) | (simp; omega) | (simp [LstSt.init, LstSt.step, LstInv.init, CntSt.init, CntSt.step, CntInv.init, WhlSt.init, WhlSt.step]; done) | (simp [LstSt.init, LstSt.step, LstInv.init, CntSt.init, CntSt.step, CntInv.init, WhlSt.init, WhlSt.step]; omega))⟩, rfl, ⟨rfl, trivial⟩, trivial⟩, ⟨⟨rfl, rfl, rfl⟩, trivial⟩, ⟨⟨rfl, rfl, rfl, rfl, by (first | rfl | omega | (dsimp only; omega) | (simp; done) | (simp; omega) | (simp [LstSt.init, LstSt.step, LstInv.init, CntSt.init, CntSt.step, CntInv.init, WhlSt.init, WhlSt.step]; done) | (simp [LstSt.init, LstSt.step, LstInv.init, CntSt.init, CntSt.step, CntInv.init, WhlSt.init, WhlSt.step]; omega))⟩, trivial⟩⟩
    have hI2 := x2.hI
    try dsimp only at hI2
    have hb2 := x2.bdy.trans (slices_stableCmpFunc_Trail_c_impl_OpenTrails_1_z_b2.eq_1 ..)
    refine seqE ?_
    refine seqE ?_
    refine brD hb2 (fun hb2 h4 => ?_) (fun hb2 h4 => ?_)
    · refine seqE ?_
      refine seqE ?_
      refine loopWE (m := (fun s : (List Trail) × Int × Int => (p1 + 1 - s.2.2).toNat)) (s0 := (x2.s.1, 0, (IntKind.i64.wrap (2 * x2.s.2)))) (fun s : (List Trail) × Int × Int => (Srt (fun _ => True) s.1 ∧ s.1.length = p0.length) ∧ 0 ≤ s.2.1 ∧ s.2.2 = s.2.1 + 2 * x2.s.2 ∧ s.2.1 ≤ p1) hb2 (by exact ⟨hI2.1, by (first | omega | (dsimp only <;> omega) | (simp (disch := omega) only [wrap_small, mid_eq, mid_eq1, mid_eq2, mid_eq3, List.length_map, List.length_set] <;> omega) | (simp (disch := omega) only [wrap_small, mid_eq, mid_eq1, mid_eq2, mid_eq3, List.length_map, List.length_set] at * <;> omega)), by (first | omega | (dsimp only <;> omega) | (simp (disch := omega) only [wrap_small, mid_eq, mid_eq1, mid_eq2, mid_eq3, List.length_map, List.length_set] <;> omega) | (simp (disch := omega) only [wrap_small, mid_eq, mid_eq1, mid_eq2, mid_eq3, List.length_map, List.length_set] at * <;> omega)), by (first | omega | (dsimp only <;> omega) | (simp (disch := omega) only [wrap_small, mid_eq, mid_eq1, mid_eq2, mid_eq3, List.length_map, List.length_set] <;> omega) | (simp (disch := omega) only [wrap_small, mid_eq, mid_eq1, mid_eq2, mid_eq3, List.length_map, List.length_set] at * <;> omega))⟩) [0, 1, 2, 6] (fun x3 => [(7, .one (.v (.int .i64 x3.s.2.1))), (8, .one (.v (.int .i64 x3.s.2.2)))]) (fun x3 => [.dead, .new ⟨4, false, List.map (Trail.cells false) x3.s.1, 0⟩, .dead]) [none, some 1, none] ?_ (fun x3 => ?_)
      · exact ⟨rfl, ⟨rfl, rfl, ⟨rfl, rfl, rfl, rfl, by (first | rfl | omega | (dsimp only; omega) | (simp; done) | (simp; omega) | (simp [LstSt.init, LstSt.step, LstInv.init, CntSt.init, CntSt.step, CntInv.init, WhlSt.init, WhlSt.step]; done) | (simp [LstSt.init, LstSt.step, LstInv.init, CntSt.init, CntSt.step, CntInv.init, WhlSt.init, WhlSt.step]; omega))⟩, rfl, ⟨rfl, trivial⟩, rfl, trivial⟩, ⟨⟨rfl, rfl, rfl⟩, trivial⟩, ⟨⟨rfl, rfl, rfl, rfl, by (first | rfl | omega | (dsimp only; omega) | (simp; done) | (simp; omega) | (simp [LstSt.init, LstSt.step, LstInv.init, CntSt.init, CntSt.step, CntInv.init, WhlSt.init, WhlSt.step]; done) | (simp [LstSt.init, LstSt.step, LstInv.init, CntSt.init, CntSt.step, CntInv.init, WhlSt.init, WhlSt.step]; omega))⟩, trivial⟩⟩
      have hI3 := x3.hI
      try dsimp only at hI3
      have hb3 := x3.bdy.trans (slices_stableCmpFunc_Trail_c_impl_OpenTrails_1_z_b3.eq_1 ..)
      refine seqE ?_
      refine seqE ?_
      refine brD hb3 (fun hb3 h5 => ?_) (fun hb3 h5 => ?_)
      · refine seqE ?_
        refine .inr ⟨0, _, _, _, c_slices_symMergeCmpFunc_Trail_c_impl_OpenTrails_1_z x3.s.1 x3.s.2.1 (IntKind.i64.wrap (x3.s.2.1 + x2.s.2)) x3.s.2.2 (by first | exact ⟨⟨hI3.1.1, by (first | omega | (dsimp only <;> omega) | (simp (disch := omega) only [wrap_small, mid_eq, mid_eq1, mid_eq2, mid_eq3, List.length_map, List.length_set] <;> omega) | (simp (disch := omega) only [wrap_small, mid_eq, mid_eq1, mid_eq2, mid_eq3, List.length_map, List.length_set] at * <;> omega))⟩, by (first | omega | (dsimp only <;> omega) | (simp (disch := omega) only [wrap_small, mid_eq, mid_eq1, mid_eq2, mid_eq3, List.length_map, List.length_set] <;> omega) | (simp (disch := omega) only [wrap_small, mid_eq, mid_eq1, mid_eq2, mid_eq3, List.length_map, List.length_set] at * <;> omega)), by (first | omega | (dsimp only <;> omega) | (simp (disch := omega) only [wrap_small, mid_eq, mid_eq1, mid_eq2, mid_eq3, List.length_map, List.length_set] <;> omega) | (simp (disch := omega) only [wrap_small, mid_eq, mid_eq1, mid_eq2, mid_eq3, List.length_map, List.length_set] at * <;> omega)), by (first | omega | (dsimp only <;> omega) | (simp (disch := omega) only [wrap_small, mid_eq, mid_eq1, mid_eq2, mid_eq3, List.length_map, List.length_set] <;> omega) | (simp (disch := omega) only [wrap_small, mid_eq, mid_eq1, mid_eq2, mid_eq3, List.length_map, List.length_set] at * <;> omega)), by (first | omega | (dsimp only <;> omega) | (simp (disch := omega) only [wrap_small, mid_eq, mid_eq1, mid_eq2, mid_eq3, List.length_map, List.length_set] <;> omega) | (simp (disch := omega) only [wrap_small, mid_eq, mid_eq1, mid_eq2, mid_eq3, List.length_map, List.length_set] at * <;> omega))⟩ | exact ⟨⟨hI1.1.1, by (first | omega | (dsimp only <;> omega) | (simp (disch := omega) only [wrap_small, mid_eq, mid_eq1, mid_eq2, mid_eq3, List.length_map, List.length_set] <;> omega) | (simp (disch := omega) only [wrap_small, mid_eq, mid_eq1, mid_eq2, mid_eq3, List.length_map, List.length_set] at * <;> omega))⟩, by (first | omega | (dsimp only <;> omega) | (simp (disch := omega) only [wrap_small, mid_eq, mid_eq1, mid_eq2, mid_eq3, List.length_map, List.length_set] <;> omega) | (simp (disch := omega) only [wrap_small, mid_eq, mid_eq1, mid_eq2, mid_eq3, List.length_map, List.length_set] at * <;> omega)), by (first | omega | (dsimp only <;> omega) | (simp (disch := omega) only [wrap_small, mid_eq, mid_eq1, mid_eq2, mid_eq3, List.length_map, List.length_set] <;> omega) | (simp (disch := omega) only [wrap_small, mid_eq, mid_eq1, mid_eq2, mid_eq3, List.length_map, List.length_set] at * <;> omega)), by (first | omega | (dsimp only <;> omega) | (simp (disch := omega) only [wrap_small, mid_eq, mid_eq1, mid_eq2, mid_eq3, List.length_map, List.length_set] <;> omega) | (simp (disch := omega) only [wrap_small, mid_eq, mid_eq1, mid_eq2, mid_eq3, List.length_map, List.length_set] at * <;> omega))⟩), (FzAs.same _), .inl ?_⟩
        refine litE (m := 4) rfl ?_
        have hz6 := len_slices_symMergeCmpFunc_Trail_c_impl_OpenTrails_1_z x3.s.1 x3.s.2.1 (IntKind.i64.wrap (x3.s.2.1 + x2.s.2)) x3.s.2.2
        refine seqE ?_
        exact x3.goE hb3 (show (fun s : (List Trail) × Int × Int => (Srt (fun _ => True) s.1 ∧ s.1.length = p0.length) ∧ 0 ≤ s.2.1 ∧ s.2.2 = s.2.1 + 2 * x2.s.2 ∧ s.2.1 ≤ p1) ((slices_symMergeCmpFunc_Trail_c_impl_OpenTrails_1_z x3.s.1 x3.s.2.1 (IntKind.i64.wrap (x3.s.2.1 + x2.s.2)) x3.s.2.2), x3.s.2.2, (IntKind.i64.wrap (x3.s.2.2 + (IntKind.i64.wrap (2 * x2.s.2))))) ∧ (fun s : (List Trail) × Int × Int => (p1 + 1 - s.2.2).toNat) ((slices_symMergeCmpFunc_Trail_c_impl_OpenTrails_1_z x3.s.1 x3.s.2.1 (IntKind.i64.wrap (x3.s.2.1 + x2.s.2)) x3.s.2.2), x3.s.2.2, (IntKind.i64.wrap (x3.s.2.2 + (IntKind.i64.wrap (2 * x2.s.2))))) < (fun s : (List Trail) × Int × Int => (p1 + 1 - s.2.2).toNat) x3.s by refine ⟨⟨?_, by (first | omega | (dsimp only <;> omega) | (simp (disch := omega) only [wrap_small, mid_eq, mid_eq1, mid_eq2, mid_eq3, List.length_map, List.length_set] <;> omega) | (simp (disch := omega) only [wrap_small, mid_eq, mid_eq1, mid_eq2, mid_eq3, List.length_map, List.length_set] at * <;> omega)), by (first | omega | (dsimp only <;> omega) | (simp (disch := omega) only [wrap_small, mid_eq, mid_eq1, mid_eq2, mid_eq3, List.length_map, List.length_set] <;> omega) | (simp (disch := omega) only [wrap_small, mid_eq, mid_eq1, mid_eq2, mid_eq3, List.length_map, List.length_set] at * <;> omega)), by (first | omega | (dsimp only <;> omega) | (simp (disch := omega) only [wrap_small, mid_eq, mid_eq1, mid_eq2, mid_eq3, List.length_map, List.length_set] <;> omega) | (simp (disch := omega) only [wrap_small, mid_eq, mid_eq1, mid_eq2, mid_eq3, List.length_map, List.length_set] at * <;> omega))⟩, by (first | omega | (dsimp only <;> omega) | (simp (disch := omega) only [wrap_small, mid_eq, mid_eq1, mid_eq2, mid_eq3, List.length_map, List.length_set] <;> omega) | (simp (disch := omega) only [wrap_small, mid_eq, mid_eq1, mid_eq2, mid_eq3, List.length_map, List.length_set] at * <;> omega))⟩; (show Sz _ p0.length _); dsimp only; rw [e_slices_symMergeCmpFunc_Trail_c_impl_OpenTrails_1_z]; exact sz_sym (N := p0.length) hI3.1 (by (first | omega | (dsimp only <;> omega) | (simp (disch := omega) only [wrap_small, mid_eq, mid_eq1, mid_eq2, mid_eq3, List.length_map, List.length_set] <;> omega) | (simp (disch := omega) only [wrap_small, mid_eq, mid_eq1, mid_eq2, mid_eq3, List.length_map, List.length_set] at * <;> omega))) (by (first | omega | (dsimp only <;> omega) | (simp (disch := omega) only [wrap_small, mid_eq, mid_eq1, mid_eq2, mid_eq3, List.length_map, List.length_set] <;> omega) | (simp (disch := omega) only [wrap_small, mid_eq, mid_eq1, mid_eq2, mid_eq3, List.length_map, List.length_set] at * <;> omega))) (by (first | omega | (dsimp only <;> omega) | (simp (disch := omega) only [wrap_small, mid_eq, mid_eq1, mid_eq2, mid_eq3, List.length_map, List.length_set] <;> omega) | (simp (disch := omega) only [wrap_small, mid_eq, mid_eq1, mid_eq2, mid_eq3, List.length_map, List.length_set] at * <;> omega))) (by (first | omega | (dsimp only <;> omega) | (simp (disch := omega) only [wrap_small, mid_eq, mid_eq1, mid_eq2, mid_eq3, List.length_map, List.length_set] <;> omega) | (simp (disch := omega) only [wrap_small, mid_eq, mid_eq1, mid_eq2, mid_eq3, List.length_map, List.length_set] at * <;> omega))) (by omega)) [none, some 1, none] ⟨rfl, ⟨rfl, rfl, ⟨rfl, rfl, rfl, rfl, by (first | rfl | omega | (dsimp only; omega) | (simp; done) | (simp; omega) | (simp [LstSt.init, LstSt.step, LstInv.init, CntSt.init, CntSt.step, CntInv.init, WhlSt.init, WhlSt.step]; done) | (simp [LstSt.init, LstSt.step, LstInv.init, CntSt.init, CntSt.step, CntInv.init, WhlSt.init, WhlSt.step]; omega))⟩, rfl, ⟨rfl, trivial⟩, rfl, trivial⟩, ⟨⟨rfl, rfl, rfl⟩, trivial⟩, ⟨⟨rfl, rfl, rfl, rfl, by (first | rfl | omega | (dsimp only; omega) | (simp; done) | (simp; omega) | (simp [LstSt.init, LstSt.step, LstInv.init, CntSt.init, CntSt.step, CntInv.init, WhlSt.init, WhlSt.step]; done) | (simp [LstSt.init, LstSt.step, LstInv.init, CntSt.init, CntSt.step, CntInv.init, WhlSt.init, WhlSt.step]; omega))⟩, trivial⟩⟩
      · have hb2 := finE hb2 (x3.outS hb3)
        refine seqE ?_
        refine seqE ?_
        refine seqE ?_
        refine brD hb2 (fun hb2 h7 => ?_) (fun hb2 h7 => x2.goE hb2 (show (fun s : (List Trail) × Int => (Srt (fun _ => True) s.1 ∧ s.1.length = p0.length) ∧ 0 < s.2 ∧ s.2 ≤ 576460752303423488) (x3.s.1, (IntKind.i64.wrap (x2.s.2 * 2))) ∧ (fun s : (List Trail) × Int => (p1 - s.2).toNat) (x3.s.1, (IntKind.i64.wrap (x2.s.2 * 2))) < (fun s : (List Trail) × Int => (p1 - s.2).toNat) x2.s by refine ⟨⟨?_, by (first | omega | (dsimp only <;> omega) | (simp (disch := omega) only [wrap_small, mid_eq, mid_eq1, mid_eq2, mid_eq3, List.length_map, List.length_set] <;> omega) | (simp (disch := omega) only [wrap_small, mid_eq, mid_eq1, mid_eq2, mid_eq3, List.length_map, List.length_set] at * <;> omega)), by (first | omega | (dsimp only <;> omega) | (simp (disch := omega) only [wrap_small, mid_eq, mid_eq1, mid_eq2, mid_eq3, List.length_map, List.length_set] <;> omega) | (simp (disch := omega) only [wrap_small, mid_eq, mid_eq1, mid_eq2, mid_eq3, List.length_map, List.length_set] at * <;> omega))⟩, by (first | omega | (dsimp only <;> omega) | (simp (disch := omega) only [wrap_small, mid_eq, mid_eq1, mid_eq2, mid_eq3, List.length_map, List.length_set] <;> omega) | (simp (disch := omega) only [wrap_small, mid_eq, mid_eq1, mid_eq2, mid_eq3, List.length_map, List.length_set] at * <;> omega))⟩; first | exact hI3.1 | ((show Sz _ p0.length _); dsimp only; rw [e_slices_symMergeCmpFunc_Trail_c_impl_OpenTrails_1_z]; exact sz_sym (N := p0.length) hI3.1 (by (first | omega | (dsimp only <;> omega) | (simp (disch := omega) only [wrap_small, mid_eq, mid_eq1, mid_eq2, mid_eq3, List.length_map, List.length_set] <;> omega) | (simp (disch := omega) only [wrap_small, mid_eq, mid_eq1, mid_eq2, mid_eq3, List.length_map, List.length_set] at * <;> omega))) (by (first | omega | (dsimp only <;> omega) | (simp (disch := omega) only [wrap_small, mid_eq, mid_eq1, mid_eq2, mid_eq3, List.length_map, List.length_set] <;> omega) | (simp (disch := omega) only [wrap_small, mid_eq, mid_eq1, mid_eq2, mid_eq3, List.length_map, List.length_set] at * <;> omega))) (by (first | omega | (dsimp only <;> omega) | (simp (disch := omega) only [wrap_small, mid_eq, mid_eq1, mid_eq2, mid_eq3, List.length_map, List.length_set] <;> omega) | (simp (disch := omega) only [wrap_small, mid_eq, mid_eq1, mid_eq2, mid_eq3, List.length_map, List.length_set] at * <;> omega))) (by (first | omega | (dsimp only <;> omega) | (simp (disch := omega) only [wrap_small, mid_eq, mid_eq1, mid_eq2, mid_eq3, List.length_map, List.length_set] <;> omega) | (simp (disch := omega) only [wrap_small, mid_eq, mid_eq1, mid_eq2, mid_eq3, List.length_map, List.length_set] at * <;> omega))) (by omega))) [none, some 1, none] ⟨rfl, ⟨rfl, ⟨rfl, rfl, rfl, rfl, by (first | rfl | omega | (dsimp only; omega) | (simp; done) | (simp; omega) | (simp [LstSt.init, LstSt.step, LstInv.init, CntSt.init, CntSt.step, CntInv.init, WhlSt.init, WhlSt.step]; done) | (simp [LstSt.init, LstSt.step, LstInv.init, CntSt.init, CntSt.step, CntInv.init, WhlSt.init, WhlSt.step]; omega))⟩, rfl, ⟨rfl, trivial⟩, trivial⟩, ⟨⟨rfl, rfl, rfl⟩, trivial⟩, ⟨⟨rfl, rfl, rfl, rfl, by (first | rfl | omega | (dsimp only; omega) | (simp; done) | (simp; omega) | (simp [LstSt.init, LstSt.step, LstInv.init, CntSt.init, CntSt.step, CntInv.init, WhlSt.init, WhlSt.step]; done) | (simp [LstSt.init, LstSt.step, LstInv.init, CntSt.init, CntSt.step, CntInv.init, WhlSt.init, WhlSt.step]; omega))⟩, trivial⟩⟩)
        refine .inr ⟨0, _, _, _, c_slices_symMergeCmpFunc_Trail_c_impl_OpenTrails_1_z x3.s.1 x3.s.2.1 (IntKind.i64.wrap (x3.s.2.1 + x2.s.2)) p1 (by first | exact ⟨⟨hI3.1.1, by (first | omega | (dsimp only <;> omega) | (simp (disch := omega) only [wrap_small, mid_eq, mid_eq1, mid_eq2, mid_eq3, List.length_map, List.length_set] <;> omega) | (simp (disch := omega) only [wrap_small, mid_eq, mid_eq1, mid_eq2, mid_eq3, List.length_map, List.length_set] at * <;> omega))⟩, by (first | omega | (dsimp only <;> omega) | (simp (disch := omega) only [wrap_small, mid_eq, mid_eq1, mid_eq2, mid_eq3, List.length_map, List.length_set] <;> omega) | (simp (disch := omega) only [wrap_small, mid_eq, mid_eq1, mid_eq2, mid_eq3, List.length_map, List.length_set] at * <;> omega)), by (first | omega | (dsimp only <;> omega) | (simp (disch := omega) only [wrap_small, mid_eq, mid_eq1, mid_eq2, mid_eq3, List.length_map, List.length_set] <;> omega) | (simp (disch := omega) only [wrap_small, mid_eq, mid_eq1, mid_eq2, mid_eq3, List.length_map, List.length_set] at * <;> omega)), by (first | omega | (dsimp only <;> omega) | (simp (disch := omega) only [wrap_small, mid_eq, mid_eq1, mid_eq2, mid_eq3, List.length_map, List.length_set] <;> omega) | (simp (disch := omega) only [wrap_small, mid_eq, mid_eq1, mid_eq2, mid_eq3, List.length_map, List.length_set] at * <;> omega)), by (first | omega | (dsimp only <;> omega) | (simp (disch := omega) only [wrap_small, mid_eq, mid_eq1, mid_eq2, mid_eq3, List.length_map, List.length_set] <;> omega) | (simp (disch := omega) only [wrap_small, mid_eq, mid_eq1, mid_eq2, mid_eq3, List.length_map, List.length_set] at * <;> omega))⟩ | exact ⟨⟨hI1.1.1, by (first | omega | (dsimp only <;> omega) | (simp (disch := omega) only [wrap_small, mid_eq, mid_eq1, mid_eq2, mid_eq3, List.length_map, List.length_set] <;> omega) | (simp (disch := omega) only [wrap_small, mid_eq, mid_eq1, mid_eq2, mid_eq3, List.length_map, List.length_set] at * <;> omega))⟩, by (first | omega | (dsimp only <;> omega) | (simp (disch := omega) only [wrap_small, mid_eq, mid_eq1, mid_eq2, mid_eq3, List.length_map, List.length_set] <;> omega) | (simp (disch := omega) only [wrap_small, mid_eq, mid_eq1, mid_eq2, mid_eq3, List.length_map, List.length_set] at * <;> omega)), by (first | omega | (dsimp only <;> omega) | (simp (disch := omega) only [wrap_small, mid_eq, mid_eq1, mid_eq2, mid_eq3, List.length_map, List.length_set] <;> omega) | (simp (disch := omega) only [wrap_small, mid_eq, mid_eq1, mid_eq2, mid_eq3, List.length_map, List.length_set] at * <;> omega)), by (first | omega | (dsimp only <;> omega) | (simp (disch := omega) only [wrap_small, mid_eq, mid_eq1, mid_eq2, mid_eq3, List.length_map, List.length_set] <;> omega) | (simp (disch := omega) only [wrap_small, mid_eq, mid_eq1, mid_eq2, mid_eq3, List.length_map, List.length_set] at * <;> omega))⟩), (FzAs.same _), .inl ?_⟩
        refine litE (m := 4) rfl ?_
        have hz8 := len_slices_symMergeCmpFunc_Trail_c_impl_OpenTrails_1_z x3.s.1 x3.s.2.1 (IntKind.i64.wrap (x3.s.2.1 + x2.s.2)) p1
        exact x2.goE hb2 (show (fun s : (List Trail) × Int => (Srt (fun _ => True) s.1 ∧ s.1.length = p0.length) ∧ 0 < s.2 ∧ s.2 ≤ 576460752303423488) ((slices_symMergeCmpFunc_Trail_c_impl_OpenTrails_1_z x3.s.1 x3.s.2.1 (IntKind.i64.wrap (x3.s.2.1 + x2.s.2)) p1), (IntKind.i64.wrap (x2.s.2 * 2))) ∧ (fun s : (List Trail) × Int => (p1 - s.2).toNat) ((slices_symMergeCmpFunc_Trail_c_impl_OpenTrails_1_z x3.s.1 x3.s.2.1 (IntKind.i64.wrap (x3.s.2.1 + x2.s.2)) p1), (IntKind.i64.wrap (x2.s.2 * 2))) < (fun s : (List Trail) × Int => (p1 - s.2).toNat) x2.s by refine ⟨⟨?_, by (first | omega | (dsimp only <;> omega) | (simp (disch := omega) only [wrap_small, mid_eq, mid_eq1, mid_eq2, mid_eq3, List.length_map, List.length_set] <;> omega) | (simp (disch := omega) only [wrap_small, mid_eq, mid_eq1, mid_eq2, mid_eq3, List.length_map, List.length_set] at * <;> omega)), by (first | omega | (dsimp only <;> omega) | (simp (disch := omega) only [wrap_small, mid_eq, mid_eq1, mid_eq2, mid_eq3, List.length_map, List.length_set] <;> omega) | (simp (disch := omega) only [wrap_small, mid_eq, mid_eq1, mid_eq2, mid_eq3, List.length_map, List.length_set] at * <;> omega))⟩, by (first | omega | (dsimp only <;> omega) | (simp (disch := omega) only [wrap_small, mid_eq, mid_eq1, mid_eq2, mid_eq3, List.length_map, List.length_set] <;> omega) | (simp (disch := omega) only [wrap_small, mid_eq, mid_eq1, mid_eq2, mid_eq3, List.length_map, List.length_set] at * <;> omega))⟩; first | exact hI3.1 | ((show Sz _ p0.length _); dsimp only; rw [e_slices_symMergeCmpFunc_Trail_c_impl_OpenTrails_1_z]; exact sz_sym (N := p0.length) hI3.1 (by (first | omega | (dsimp only <;> omega) | (simp (disch := omega) only [wrap_small, mid_eq, mid_eq1, mid_eq2, mid_eq3, List.length_map, List.length_set] <;> omega) | (simp (disch := omega) only [wrap_small, mid_eq, mid_eq1, mid_eq2, mid_eq3, List.length_map, List.length_set] at * <;> omega))) (by (first | omega | (dsimp only <;> omega) | (simp (disch := omega) only [wrap_small, mid_eq, mid_eq1, mid_eq2, mid_eq3, List.length_map, List.length_set] <;> omega) | (simp (disch := omega) only [wrap_small, mid_eq, mid_eq1, mid_eq2, mid_eq3, List.length_map, List.length_set] at * <;> omega))) (by (first | omega | (dsimp only <;> omega) | (simp (disch := omega) only [wrap_small, mid_eq, mid_eq1, mid_eq2, mid_eq3, List.length_map, List.length_set] <;> omega) | (simp (disch := omega) only [wrap_small, mid_eq, mid_eq1, mid_eq2, mid_eq3, List.length_map, List.length_set] at * <;> omega))) (by (first | omega | (dsimp only <;> omega) | (simp (disch := omega) only [wrap_small, mid_eq, mid_eq1, mid_eq2, mid_eq3, List.length_map, List.length_set] <;> omega) | (simp (disch := omega) only [wrap_small, mid_eq, mid_eq1, mid_eq2, mid_eq3, List.length_map, List.length_set] at * <;> omega))) (by omega))) [none, some 1, none] ⟨rfl, ⟨rfl, ⟨rfl, rfl, rfl, rfl, by (first | rfl | omega | (dsimp only; omega) | (simp; done) | (simp; omega) | (simp [LstSt.init, LstSt.step, LstInv.init, CntSt.init, CntSt.step, CntInv.init, WhlSt.init, WhlSt.step]; done) | (simp [LstSt.init, LstSt.step, LstInv.init, CntSt.init, CntSt.step, CntInv.init, WhlSt.init, WhlSt.step]; omega))⟩, rfl, ⟨rfl, trivial⟩, trivial⟩, ⟨⟨rfl, rfl, rfl⟩, trivial⟩, ⟨⟨rfl, rfl, rfl, rfl, by (first | rfl | omega | (dsimp only; omega) | (simp; done) | (simp; omega) | (simp [LstSt.init, LstSt.step, LstInv.init, CntSt.init, CntSt.step, CntInv.init, WhlSt.init, WhlSt.step]; done) | (simp [LstSt.init, LstSt.step, LstInv.init, CntSt.init, CntSt.step, CntInv.init, WhlSt.init, WhlSt.step]; omega))⟩, trivial⟩⟩
    · have hg := finE hg (x2.outS hb2)
      exact leafM hown hg
theorem e_slices_stableCmpFunc_Trail_c_impl_OpenTrails_1_z (p0 : List Trail) (p1 : Int) : slices_stableCmpFunc_Trail_c_impl_OpenTrails_1_z p0 p1 = g_stable p0 p1 impl_OpenTrails_1 := by
  have hs := fun (a : List Trail) (x y z : Int) => e_slices_symMergeCmpFunc_Trail_c_impl_OpenTrails_1_z a x y z
  have h3 : ∀ s2 s3, slices_stableCmpFunc_Trail_c_impl_OpenTrails_1_z_b3 p1 s2 s3 = g_stable_b3 p1 s2 impl_OpenTrails_1 s3 := by intro s2 s3; unfold slices_stableCmpFunc_Trail_c_impl_OpenTrails_1_z_b3 g_stable_b3; simp only [hs]
  have h3' : ∀ s2, slices_stableCmpFunc_Trail_c_impl_OpenTrails_1_z_b3 p1 s2 = g_stable_b3 p1 s2 impl_OpenTrails_1 := fun s2 => funext (h3 s2)
  have h2 : slices_stableCmpFunc_Trail_c_impl_OpenTrails_1_z_b2 p1 = g_stable_b2 p1 impl_OpenTrails_1 := by funext s2; unfold slices_stableCmpFunc_Trail_c_impl_OpenTrails_1_z_b2 g_stable_b2; simp only [h3', hs]
  unfold slices_stableCmpFunc_Trail_c_impl_OpenTrails_1_z g_stable
  rw [h2]
  rfl
def slices_SortStableFunc_STrail_Trail_c_impl_OpenTrails_1_z (p0 : (List Trail)) : (List Trail) :=
  (slices_stableCmpFunc_Trail_c_impl_OpenTrails_1_z p0 (((p0).length : Nat) : Int))
theorem c_slices_SortStableFunc_STrail_Trail_c_impl_OpenTrails_1_z (p0 : (List Trail)) (hs : Srt (fun _ => True) p0 ∧ p0.length ≤ 288230376151711744) : FnOk prog 83 [.tup [.one (.s true 4 (List.map (Trail.cells false) p0))], .one (.c 84 [])] ⟨.tup [], [.one (.s true 4 (List.map (Trail.cells false) ((slices_SortStableFunc_STrail_Trail_c_impl_OpenTrails_1_z p0))))], [], false⟩ := by
  refine FnOk.introM (E := env) envOk wide func83 rfl (by kernel_rfl) rfl ?_
  have hg := slices_SortStableFunc_STrail_Trail_c_impl_OpenTrails_1_z.eq_1 p0
  have hown : (∀ g : (List Trail), AV.Own (AV.tup [])) ∧ (fun g : (List Trail) => T.s true 4 (List.map (Trail.cells false) (g))) = _ := ⟨fun g => trivial, rfl⟩
  refine lenE (k := (p0).length) (by simp) (fun hN1 => ?_)
  refine .inr ⟨0, _, _, _, c_slices_stableCmpFunc_Trail_c_impl_OpenTrails_1_z p0 (((p0).length : Nat) : Int) (by exact ⟨hs, rfl⟩), (FzAs.same _), .inl ?_⟩
  refine litE (m := 3) rfl ?_
  exact leafM hown hg
theorem e_slices_SortStableFunc_STrail_Trail_c_impl_OpenTrails_1_z (p0 : List Trail) : slices_SortStableFunc_STrail_Trail_c_impl_OpenTrails_1_z p0 = g_stable p0 ((p0.length : Nat) : Int) impl_OpenTrails_1 := e_slices_stableCmpFunc_Trail_c_impl_OpenTrails_1_z _ _
def impl_OpenTrails (p0 : (List Stripe)) : (List Trail) :=
  (slices_SortStableFunc_STrail_Trail_c_impl_OpenTrails_1_z (impl_allTrails p0))
theorem c_impl_OpenTrails (p0 : (List Stripe)) (hs : bdS Stripe.bd 1048576 p0) : FnOk prog 41 [.one (.s false 2 (List.map (Stripe.cells false) p0))] ⟨.one (.s true 4 (List.map (Trail.cells false) (impl_OpenTrails p0))), [], [], true⟩ := by
  refine FnOk.intro (E := env) envOk wide func41 rfl (by kernel_rfl) rfl rfl ?_
  have hg := impl_OpenTrails.eq_1 p0
  have hown : (fun g : (List Trail) => AV.one (.s true 4 (List.map (Trail.cells false) g))) = _ := rfl
  refine seqE ?_
  refine seqE ?_
  refine .inl (⟨_, _, (FnOk.frzIn rfl (frzMap frz_Trail _) (c_impl_allTrails p0 (by first | exact hs | exact ⟨fun _ _ => trivial, Nat.le_trans (allTrails_len p0 hs) (by omega)⟩))), (FzAs.same _), ?_⟩)
  refine litE (m := 1) rfl ?_
  refine seqE ?_
  refine .inr ⟨0, _, _, _, c_slices_SortStableFunc_STrail_Trail_c_impl_OpenTrails_1_z (impl_allTrails p0) (by first | exact hs | exact ⟨fun _ _ => trivial, Nat.le_trans (allTrails_len p0 hs) (by omega)⟩), (FzAs.same _), .inl ?_⟩
  refine litE (m := 3) rfl ?_
  refine seqE ?_
  exact leafA hown hg
def slices_Equal_SAttr_Attr_b1 (p1 : (List Attr)) (i1 : Nat) (s1 : Unit) (a1 : Attr) : Step (Unit) Bool :=
  (bif (!((decide (a1.Key = (p1[i1]?.getD default).Key)) && ((a1.Num == (p1[i1]?.getD default).Num) && ((a1.N == (p1[i1]?.getD default).N) && ((decide (a1.Text = (p1[i1]?.getD default).Text)) && true))))) then (.done false) else (.next ()))
def slices_Equal_SAttr_Attr (p0 : (List Attr)) (p1 : (List Attr)) : Bool :=
  (bif ((((p0).length : Nat) : Int) != (((p1).length : Nat) : Int)) then false else (Fin.get (fun s1 => true) (loopL (slices_Equal_SAttr_Attr_b1 p1) 0 () p0)))
theorem c_slices_Equal_SAttr_Attr (p0 : (List Attr)) (p1 : (List Attr)) : FnOk prog 120 [.one (.s false 4 (List.map Attr.cells p0)), .one (.s false 4 (List.map Attr.cells p1))] ⟨.one (.v (.bool (slices_Equal_SAttr_Attr p0 p1))), [], [], false⟩ := by
  refine FnOk.intro (E := env) envOk wide func120 rfl (by kernel_rfl) rfl rfl ?_
  have hg := slices_Equal_SAttr_Attr.eq_1 p0 p1
  have hown : ∀ g : Bool, AV.Own (AV.one (.v (.bool g))) := fun g => .v _
  refine seqE ?_
  refine seqE ?_
  refine seqE ?_
  refine lenM fun hN1 => ?_
  refine lenM fun hN2 => ?_
  refine brW hg (fun hg h3 => ?_) (fun hg h3 => ?_)
  · refine seqE ?_
    exact leafE hown hg
  · refine seqE ?_
    refine seqE ?_
    refine lenM fun hN4 => ?_
    refine loopLE hg [0, 1, 12] (fun x1 => [(13, .one (.v (.int .i64 ((x1.i : Nat) : Int))))]) (fun x1 => []) [] ?_ (fun x1 => ?_)
    · exact ⟨rfl, ⟨rfl, rfl, rfl, rfl, trivial⟩, trivial, trivial⟩
    refine seqE ?_
    refine seqE ?_
    refine tstL (fun hi1 => ?_) (fun hi1 => ?_)
    · have hb1 := (x1.bdy hi1).trans (slices_Equal_SAttr_Attr_b1.eq_1 ..)
      have hw1 := wrap_succ hi1 (by first | assumption | omega)
      refine seqE ?_
      refine seqE ?_
      refine seqE ?_
      refine .inl ⟨by kernel_rfl, ?_⟩
      refine idxAt hi1 ?_
      refine idxOf (l := p1) (by (first | omega | (simp (disch := omega) only [wrap_small, mid_eq, List.length_map]; omega) | (simp; done) | (simp; omega) | (simp at *; omega) | (simp at *; done) | (simp_all; done) | (simp_all; omega))) (fun hq5 => ?_)
      refine brE hb1 (fun hb1 h6 => ?_) (fun hb1 h6 => x1.goE hi1 hb1 [] ⟨rfl, ⟨(eqInt hw1), rfl, rfl, rfl, trivial⟩, trivial, trivial⟩)
      refine seqE ?_
      have hg := donE hg (x1.outD hi1 hb1)
      exact leafE hown hg
    have hg := finE hg (x1.fin hi1)
    refine seqE ?_
    exact leafE hown hg
def impl_SameSpan (p0 : Span) (p1 : Span) : Bool :=
  (bif (p0.Trace == p1.Trace) then (bif (p0.Id == p1.Id) then (bif (p0.Start == p1.Start) then (bif (p0.End == p1.End) then (bif (p0.Err == p1.Err) then (slices_Equal_SAttr_Attr p0.Attrs p1.Attrs) else false) else false) else false) else false) else false)
theorem c_impl_SameSpan (p0 : Span) (p1 : Span) : FnOk prog 87 [.agg ((Span.cells false) p0), .agg ((Span.cells false) p1)] ⟨.one (.v (.bool (impl_SameSpan p0 p1))), [], [], false⟩ := by
  refine FnOk.intro (E := env) envOk wide func87 rfl (by kernel_rfl) rfl rfl ?_
  have hg := impl_SameSpan.eq_1 p0 p1
  have hown : ∀ g : Bool, AV.Own (AV.one (.v (.bool g))) := fun g => .v _
  refine seqE ?_
  refine litE (m := 0) rfl ?_
  refine litE (m := 1) rfl ?_
  refine seqE ?_
  refine brQ hg (fun hg h1 => ?_) (fun hg h1 => leafE hown hg)
  refine brQ hg (fun hg h2 => ?_) (fun hg h2 => leafE hown hg)
  refine brQ hg (fun hg h3 => ?_) (fun hg h3 => leafE hown hg)
  refine brQ hg (fun hg h4 => ?_) (fun hg h4 => leafE hown hg)
  refine brE hg (fun hg h5 => ?_) (fun hg h5 => leafE hown hg)
  refine .inl (⟨_, _, c_slices_Equal_SAttr_Attr p0.Attrs p1.Attrs, (FzAs.same _), ?_⟩)
  refine litE (m := 3) rfl ?_
  exact leafE hown hg
def slices_EqualFunc_SSpan_SSpan_Span_Span_c_impl_SameSpan_b1 (p1 : (List Span)) (i1 : Nat) (s1 : Unit) (a1 : Span) : Step (Unit) Bool :=
  (bif (!(impl_SameSpan a1 (p1[i1]?.getD default))) then (.done false) else (.next ()))
def slices_EqualFunc_SSpan_SSpan_Span_Span_c_impl_SameSpan (p0 : (List Span)) (p1 : (List Span)) : Bool :=
  (bif ((((p0).length : Nat) : Int) != (((p1).length : Nat) : Int)) then false else (Fin.get (fun s1 => true) (loopL (slices_EqualFunc_SSpan_SSpan_Span_Span_c_impl_SameSpan_b1 p1) 0 () p0)))
theorem c_slices_EqualFunc_SSpan_SSpan_Span_Span_c_impl_SameSpan (p0 : (List Span)) (p1 : (List Span)) : FnOk prog 86 [.one (.s false 6 (List.map (Span.cells false) p0)), .one (.s false 6 (List.map (Span.cells false) p1)), .one (.c 87 [])] ⟨.one (.v (.bool (slices_EqualFunc_SSpan_SSpan_Span_Span_c_impl_SameSpan p0 p1))), [], [], false⟩ := by
  refine FnOk.intro (E := env) envOk wide func86 rfl (by kernel_rfl) rfl rfl ?_
  have hg := slices_EqualFunc_SSpan_SSpan_Span_Span_c_impl_SameSpan.eq_1 p0 p1
  have hown : ∀ g : Bool, AV.Own (AV.one (.v (.bool g))) := fun g => .v _
  refine seqE ?_
  refine seqE ?_
  refine seqE ?_
  refine lenM fun hN1 => ?_
  refine lenM fun hN2 => ?_
  refine brW hg (fun hg h3 => ?_) (fun hg h3 => ?_)
  · refine seqE ?_
    exact leafE hown hg
  · refine seqE ?_
    refine seqE ?_
    refine lenM fun hN4 => ?_
    refine loopLE hg [1, 2, 15, 16] (fun x1 => [(17, .one (.v (.int .i64 ((x1.i : Nat) : Int))))]) (fun x1 => []) [] ?_ (fun x1 => ?_)
    · exact ⟨rfl, ⟨rfl, rfl, ⟨rfl, trivial⟩, rfl, rfl, trivial⟩, trivial, trivial⟩
    refine seqE ?_
    refine seqE ?_
    refine tstL (fun hi1 => ?_) (fun hi1 => ?_)
    · have hb1 := (x1.bdy hi1).trans (slices_EqualFunc_SSpan_SSpan_Span_Span_c_impl_SameSpan_b1.eq_1 ..)
      have hw1 := wrap_succ hi1 (by first | assumption | omega)
      refine seqE ?_
      refine seqE ?_
      refine idxAt hi1 ?_
      refine litE (m := 0) rfl ?_
      refine seqE ?_
      refine idxOf (l := p1) (by (first | omega | (simp (disch := omega) only [wrap_small, mid_eq, List.length_map]; omega) | (simp; done) | (simp; omega) | (simp at *; omega) | (simp at *; done) | (simp_all; done) | (simp_all; omega))) (fun hq5 => ?_)
      refine litE (m := 1) rfl ?_
      refine seqE ?_
      refine .inl (⟨_, _, c_impl_SameSpan (p0[x1.i]'hi1) (p1[x1.i]?.getD default), (FzAs.same _), ?_⟩)
      refine litE (m := 3) rfl ?_
      refine brE hb1 (fun hb1 h6 => ?_) (fun hb1 h6 => x1.goE hi1 hb1 [] ⟨rfl, ⟨(eqInt hw1), rfl, ⟨rfl, trivial⟩, rfl, rfl, trivial⟩, trivial, trivial⟩)
      refine seqE ?_
      have hg := donE hg (x1.outD hi1 hb1)
      exact leafE hown hg
    have hg := finE hg (x1.fin hi1)
    refine seqE ?_
    exact leafE hown hg
def impl_SameTrail (p0 : Trail) (p1 : Trail) : Bool :=
  (bif (p0.Id == p1.Id) then (bif (p0.Stamp == p1.Stamp) then (bif (p0.First == p1.First) then (slices_EqualFunc_SSpan_SSpan_Span_Span_c_impl_SameSpan p0.Spans p1.Spans) else false) else false) else false)
theorem c_impl_SameTrail (p0 : Trail) (p1 : Trail) : FnOk prog 42 [.agg ((Trail.cells false) p0), .agg ((Trail.cells false) p1)] ⟨.one (.v (.bool (impl_SameTrail p0 p1))), [], [], false⟩ := by
  refine FnOk.intro (E := env) envOk wide func42 rfl (by kernel_rfl) rfl rfl ?_
  have hg := impl_SameTrail.eq_1 p0 p1
  have hown : ∀ g : Bool, AV.Own (AV.one (.v (.bool g))) := fun g => .v _
  refine seqE ?_
  refine litE (m := 0) rfl ?_
  refine litE (m := 1) rfl ?_
  refine seqE ?_
  refine brQ hg (fun hg h1 => ?_) (fun hg h1 => leafE hown hg)
  refine brQ hg (fun hg h2 => ?_) (fun hg h2 => leafE hown hg)
  refine brQ hg (fun hg h3 => ?_) (fun hg h3 => leafE hown hg)
  refine .inl (⟨_, _, c_slices_EqualFunc_SSpan_SSpan_Span_Span_c_impl_SameSpan p0.Spans p1.Spans, (FzAs.same _), ?_⟩)
  refine litE (m := 3) rfl ?_
  exact leafE hown hg
def slices_EqualFunc_STrail_STrail_Trail_Trail_c_impl_SameTrail_b1 (p1 : (List Trail)) (i1 : Nat) (s1 : Unit) (a1 : Trail) : Step (Unit) Bool :=
  (bif (!(impl_SameTrail a1 (p1[i1]?.getD default))) then (.done false) else (.next ()))
def slices_EqualFunc_STrail_STrail_Trail_Trail_c_impl_SameTrail (p0 : (List Trail)) (p1 : (List Trail)) : Bool :=
  (bif ((((p0).length : Nat) : Int) != (((p1).length : Nat) : Int)) then false else (Fin.get (fun s1 => true) (loopL (slices_EqualFunc_STrail_STrail_Trail_Trail_c_impl_SameTrail_b1 p1) 0 () p0)))
theorem c_slices_EqualFunc_STrail_STrail_Trail_Trail_c_impl_SameTrail (p0 : (List Trail)) (p1 : (List Trail)) : FnOk prog 40 [.one (.s false 4 (List.map (Trail.cells false) p0)), .one (.s false 4 (List.map (Trail.cells false) p1)), .one (.c 42 [])] ⟨.one (.v (.bool (slices_EqualFunc_STrail_STrail_Trail_Trail_c_impl_SameTrail p0 p1))), [], [], false⟩ := by
  refine FnOk.intro (E := env) envOk wide func40 rfl (by kernel_rfl) rfl rfl ?_
  have hg := slices_EqualFunc_STrail_STrail_Trail_Trail_c_impl_SameTrail.eq_1 p0 p1
  have hown : ∀ g : Bool, AV.Own (AV.one (.v (.bool g))) := fun g => .v _
  refine seqE ?_
  refine seqE ?_
  refine seqE ?_
  refine lenM fun hN1 => ?_
  refine lenM fun hN2 => ?_
  refine brW hg (fun hg h3 => ?_) (fun hg h3 => ?_)
  · refine seqE ?_
    exact leafE hown hg
  · refine seqE ?_
    refine seqE ?_
    refine lenM fun hN4 => ?_
    refine loopLE hg [1, 2, 15, 16] (fun x1 => [(17, .one (.v (.int .i64 ((x1.i : Nat) : Int))))]) (fun x1 => []) [] ?_ (fun x1 => ?_)
    · exact ⟨rfl, ⟨rfl, rfl, ⟨rfl, trivial⟩, rfl, rfl, trivial⟩, trivial, trivial⟩
    refine seqE ?_
    refine seqE ?_
    refine tstL (fun hi1 => ?_) (fun hi1 => ?_)
    · have hb1 := (x1.bdy hi1).trans (slices_EqualFunc_STrail_STrail_Trail_Trail_c_impl_SameTrail_b1.eq_1 ..)
      have hw1 := wrap_succ hi1 (by first | assumption | omega)
      refine seqE ?_
      refine seqE ?_
      refine idxAt hi1 ?_
      refine litE (m := 0) rfl ?_
      refine seqE ?_
      refine idxOf (l := p1) (by (first | omega | (simp (disch := omega) only [wrap_small, mid_eq, List.length_map]; omega) | (simp; done) | (simp; omega) | (simp at *; omega) | (simp at *; done) | (simp_all; done) | (simp_all; omega))) (fun hq5 => ?_)
      refine litE (m := 1) rfl ?_
      refine seqE ?_
      refine .inl (⟨_, _, c_impl_SameTrail (p0[x1.i]'hi1) (p1[x1.i]?.getD default), (FzAs.same _), ?_⟩)
      refine litE (m := 3) rfl ?_
      refine brE hb1 (fun hb1 h6 => ?_) (fun hb1 h6 => x1.goE hi1 hb1 [] ⟨rfl, ⟨(eqInt hw1), rfl, ⟨rfl, trivial⟩, rfl, rfl, trivial⟩, trivial, trivial⟩)
      refine seqE ?_
      have hg := donE hg (x1.outD hi1 hb1)
      exact leafE hown hg
    have hg := finE hg (x1.fin hi1)
    refine seqE ?_
    exact leafE hown hg
def impl_Agrees (p0 : World) (p1 : Model) : Bool :=
  (bif (impl_SameConf p0.C p1.C) then (bif (p0.Shut == p1.Shut) then (bif ((p0.B.Rate == p1.B.Rate) && ((p0.B.Burst == p1.B.Burst) && ((p0.B.Tokens == p1.B.Tokens) && ((p0.B.At == p1.B.At) && true)))) then (bif (p0.Used == p1.Used) then (bif (impl_SameCache p0.Cache p1.Cache) then (slices_EqualFunc_STrail_STrail_Trail_Trail_c_impl_SameTrail (impl_OpenTrails p0.St) p1.Open) else false) else false) else false) else false) else false)
theorem c_impl_Agrees (p0 : World) (p1 : Model) (hs : World.bd 1048576 p0) : FnOk prog 10 [.agg ((World.cells false) p0), .agg ((Model.cells false) p1)] ⟨.one (.v (.bool (impl_Agrees p0 p1))), [], [], false⟩ := by
  refine FnOk.intro (E := env) envOk wide func10 rfl (by kernel_rfl) rfl rfl ?_
  have hg := impl_Agrees.eq_1 p0 p1
  have hown : ∀ g : Bool, AV.Own (AV.one (.v (.bool g))) := fun g => .v _
  refine seqE ?_
  refine litE (m := 0) rfl ?_
  refine litE (m := 1) rfl ?_
  refine seqE ?_
  refine .inr (.inl ⟨42, [(0, true), (1, true), (2, true), (3, true), (4, true), (5, true), (6, true), (7, true), (8, true), (9, true), (10, true), (11, true), (12, true), (13, true), (14, true), (15, true), (16, true), (17, true), (18, true), (19, true), (20, true), (21, true), (22, true), (23, true), (24, true), (25, true), (26, true), (27, true), (28, true), (29, true), (30, true), (31, true), (32, true), (33, true), (34, true), (35, true), (37, true), (38, true), (36, false), (39, false), (40, false), (41, false)], by kernel_rfl, ?_⟩)
  refine ⟨_, _, c_impl_SameConf p0.C p1.C, (FzAs.same _), ?_⟩
  refine brE hg (fun hg h1 => ?_) (fun hg h1 => leafE hown hg)
  refine brE hg (fun hg h2 => ?_) (fun hg h2 => leafE hown hg)
  refine brE hg (fun hg h3 => ?_) (fun hg h3 => leafE hown hg)
  refine brQ hg (fun hg h4 => ?_) (fun hg h4 => leafE hown hg)
  refine ⟨_, _, c_impl_SameCache p0.Cache p1.Cache, (FzAs.same _), ?_⟩
  refine brE hg (fun hg h5 => ?_) (fun hg h5 => leafE hown hg)
  refine ⟨_, _, (FnOk.frz1 rfl (frzMap frz_Trail _) (c_impl_OpenTrails p0.St (by exact hs.2.1))), (FzAs.same _), ?_⟩
  refine litE (m := 3) rfl ?_
  refine ⟨_, _, c_slices_EqualFunc_STrail_STrail_Trail_Trail_c_impl_SameTrail (impl_OpenTrails p0.St) p1.Open, (FzAs.same _), ?_⟩
  refine litE (m := 4) rfl ?_
  exact leafE hown hg
def laws_eqPolS_b1 (r0 : (Pol → Pol → Bool)) (p1 : (List Pol)) (i1 : Nat) (s1 : Unit) (a1 : Pol) : Step (Unit) Bool :=
  (bif (!(r0 a1 (p1[i1]?.getD default))) then (.done false) else (.next ()))
def laws_eqPolS (r0 : Pol → Pol → Bool) (p0 : (List Pol)) (p1 : (List Pol)) : Bool :=
  (bif ((((p0).length : Nat) : Int) != (((p1).length : Nat) : Int)) then false else (Fin.get (fun s1 => true) (loopL (laws_eqPolS_b1 r0 p1) 0 () p0)))
theorem c_laws_eqPolS (r0 : Pol → Pol → Bool) (p0 : (List Pol)) (p1 : (List Pol)) (m0 : Nat) (hrec0 : ∀ (z0 : Pol) (z1 : Pol), Pol.dep z0 < m0 → FnOk prog 88 [.agg (Pol.opn false z0), .agg (Pol.opn false z1)] ⟨.one (.v (.bool (r0 z0 z1))), [], [], false⟩) (hm0 : ∀ x ∈ p0, Pol.dep x < m0) : FnOk prog 121 [.one (.s false 5 (List.map (Pol.cells false) p0)), .one (.s false 5 (List.map (Pol.cells false) p1))] ⟨.one (.v (.bool (laws_eqPolS r0 p0 p1))), [], [], false⟩ := by
  refine FnOk.intro (E := env) envOk wide func121 rfl (by kernel_rfl) rfl rfl ?_
  have hg := laws_eqPolS.eq_1 r0 p0 p1
  have hown : ∀ g : Bool, AV.Own (AV.one (.v (.bool g))) := fun g => .v _
  refine seqE ?_
  refine seqE ?_
  refine seqE ?_
  refine lenM fun hN1 => ?_
  refine lenM fun hN2 => ?_
  refine brW hg (fun hg h3 => ?_) (fun hg h3 => ?_)
  · refine seqE ?_
    exact leafE hown hg
  · refine seqE ?_
    refine seqE ?_
    refine loopLE hg [0, 1] (fun x1 => [(5, .one (.v (.int .i64 ((x1.i : Nat) : Int))))]) (fun x1 => []) [] ?_ (fun x1 => ?_)
    · exact ⟨rfl, ⟨rfl, rfl, rfl, trivial⟩, trivial, trivial⟩
    refine seqE ?_
    refine seqE ?_
    refine lenM fun hN4 => ?_
    refine tstL (fun hi1 => ?_) (fun hi1 => ?_)
    · have hb1 := (x1.bdy hi1).trans (laws_eqPolS_b1.eq_1 ..)
      have hw1 := wrap_succ hi1 (by first | assumption | omega)
      refine seqE ?_
      refine seqE ?_
      refine .inl ⟨by kernel_rfl, ?_⟩
      refine idxAtR (Pol.cells_eq false) hi1 ?_
      refine idxOfR (Pol.cells_eq false) (l := p1) (by (first | omega | (simp (disch := omega) only [wrap_small, mid_eq, List.length_map]; omega) | (simp; done) | (simp; omega) | (simp at *; omega) | (simp at *; done) | (simp_all; done) | (simp_all; omega))) (fun hq5 => ?_)
      refine ⟨_, _, hrec0 (p0[x1.i]'hi1) (p1[x1.i]?.getD default) (by first | exact hm0 _ (List.getElem_mem _) | exact hm0 _ (List.mem_of_getElem? (by assumption)) | exact Nat.lt_of_lt_of_le (Pol.dep_lt (List.getElem_mem _)) (Nat.le_of_lt_succ hd0) | exact Nat.lt_of_lt_of_le (Pol.dep_lt (List.mem_of_getElem? (by assumption))) (Nat.le_of_lt_succ hd0)), (FzAs.same _), ?_⟩
      refine brE hb1 (fun hb1 h6 => ?_) (fun hb1 h6 => x1.goE hi1 hb1 [] ⟨rfl, ⟨(eqInt hw1), rfl, rfl, trivial⟩, trivial, trivial⟩)
      refine seqE ?_
      have hg := donE hg (x1.outD hi1 hb1)
      exact leafE hown hg
    have hg := finE hg (x1.fin hi1)
    refine seqE ?_
    exact leafE hown hg
def laws_eqPolR : Nat → Pol → Pol → Bool
  | 0, _, _ => default
  | n + 1, p0, p1 => (bif (p0.Kind != p1.Kind) then false else (bif (p0.N != p1.N) then false else (bif (!decide (p0.Key = p1.Key)) then false else (bif (!decide (p0.Text = p1.Text)) then false else (bif (!(laws_eqPolS (laws_eqPolR n) p0.L p1.L)) then false else true)))))
theorem cR_laws_eqPol : ∀ (n : Nat) (p0 : Pol) (p1 : Pol), Pol.dep p0 < n → FnOk prog 88 [.agg (Pol.opn false p0), .agg (Pol.opn false p1)] ⟨.one (.v (.bool (laws_eqPolR n p0 p1))), [], [], false⟩ := by
  intro n
  induction n with
  | zero => intro p0 p1 hd0; omega
  | succ n ih =>
    intro p0 p1 hd0
    refine FnOk.intro (E := env) envOk wide func88 rfl (by kernel_rfl) rfl rfl ?_
    have hg : laws_eqPolR (n + 1) p0 p1 = _ := laws_eqPolR.eq_2 ..
    have hown : ∀ g : Bool, AV.Own (AV.one (.v (.bool g))) := fun g => .v _
    refine seqE ?_
    refine litE (m := 0) rfl ?_
    refine litE (m := 1) rfl ?_
    refine seqE ?_
    refine seqE ?_
    refine brW hg (fun hg h1 => ?_) (fun hg h1 => ?_)
    · refine seqE ?_
      exact leafE hown hg
    · refine seqE ?_
      refine seqE ?_
      refine brW hg (fun hg h2 => ?_) (fun hg h2 => ?_)
      · refine seqE ?_
        exact leafE hown hg
      · refine seqE ?_
        refine seqE ?_
        refine brE hg (fun hg h3 => ?_) (fun hg h3 => ?_)
        · refine seqE ?_
          exact leafE hown hg
        · refine seqE ?_
          refine seqE ?_
          refine brE hg (fun hg h4 => ?_) (fun hg h4 => ?_)
          · refine seqE ?_
            exact leafE hown hg
          · refine seqE ?_
            refine seqE ?_
            refine .inl (⟨_, _, c_laws_eqPolS (laws_eqPolR n) p0.L p1.L n ih (by first | exact hm0 | exact fun x hx => Nat.lt_of_lt_of_le (Pol.dep_lt hx) (Nat.le_of_lt_succ hd0)), (FzAs.same _), ?_⟩)
            refine litE (m := 3) rfl ?_
            refine brE hg (fun hg h5 => ?_) (fun hg h5 => ?_)
            · refine seqE ?_
              exact leafE hown hg
            · refine seqE ?_
              exact leafE hown hg
def laws_eqPol (p0 : Pol) (p1 : Pol) : Bool := laws_eqPolR (Pol.dep p0 + 1) p0 p1
theorem c_laws_eqPol (p0 : Pol) (p1 : Pol) : FnOk prog 88 [.agg (Pol.opn false p0), .agg (Pol.opn false p1)] ⟨.one (.v (.bool (laws_eqPol p0 p1))), [], [], false⟩ := cR_laws_eqPol _ p0 p1 (Nat.lt_succ_self _)
theorem rfR_laws_eqPol : ∀ (n : Nat) (x : Pol), Pol.dep x < n → laws_eqPolR n x x = true := by
  intro n
  induction n with
  | zero => intro x h; omega
  | succ n ih =>
    intro x h
    have e : laws_eqPolS (laws_eqPolR n) x.L x.L = true := eqS_okM (b := laws_eqPolS_b1 (laws_eqPolR n)) x.L (fun a ha => ih a (Nat.lt_of_lt_of_le (Pol.dep_lt ha) (Nat.le_of_lt_succ h))) (fun _ _ _ _ => rfl) (fun _ _ => rfl)
    simp [laws_eqPolR, e]
theorem rf_laws_eqPol (x : Pol) : laws_eqPol x x = true := rfR_laws_eqPol _ x (Nat.lt_succ_self _)
def laws_eqConf (p0 : Conf) (p1 : Conf) : Bool :=
  (bif (p0.Stripes != p1.Stripes) then false else (bif (p0.Wait != p1.Wait) then false else (bif (p0.Budget != p1.Budget) then false else (bif (p0.Cache != p1.Cache) then false else (bif (p0.Queue != p1.Queue) then false else (bif (p0.Rate != p1.Rate) then false else (bif (p0.Burst != p1.Burst) then false else (bif (!(laws_eqPol p0.Rule p1.Rule)) then false else true))))))))
theorem c_laws_eqConf (p0 : Conf) (p1 : Conf) : FnOk prog 43 [.agg ((Conf.cells false) p0), .agg ((Conf.cells false) p1)] ⟨.one (.v (.bool (laws_eqConf p0 p1))), [], [], false⟩ := by
  refine FnOk.intro (E := env) envOk wide func43 rfl (by kernel_rfl) rfl rfl ?_
  have hg := laws_eqConf.eq_1 p0 p1
  have hown : ∀ g : Bool, AV.Own (AV.one (.v (.bool g))) := fun g => .v _
  refine seqE ?_
  refine litE (m := 0) rfl ?_
  refine litE (m := 1) rfl ?_
  refine seqE ?_
  refine seqE ?_
  refine brW hg (fun hg h1 => ?_) (fun hg h1 => ?_)
  · refine seqE ?_
    exact leafE hown hg
  · refine seqE ?_
    refine seqE ?_
    refine brW hg (fun hg h2 => ?_) (fun hg h2 => ?_)
    · refine seqE ?_
      exact leafE hown hg
    · refine seqE ?_
      refine seqE ?_
      refine brW hg (fun hg h3 => ?_) (fun hg h3 => ?_)
      · refine seqE ?_
        exact leafE hown hg
      · refine seqE ?_
        refine seqE ?_
        refine brW hg (fun hg h4 => ?_) (fun hg h4 => ?_)
        · refine seqE ?_
          exact leafE hown hg
        · refine seqE ?_
          refine seqE ?_
          refine brW hg (fun hg h5 => ?_) (fun hg h5 => ?_)
          · refine seqE ?_
            exact leafE hown hg
          · refine seqE ?_
            refine seqE ?_
            refine brW hg (fun hg h6 => ?_) (fun hg h6 => ?_)
            · refine seqE ?_
              exact leafE hown hg
            · refine seqE ?_
              refine seqE ?_
              refine brW hg (fun hg h7 => ?_) (fun hg h7 => ?_)
              · refine seqE ?_
                exact leafE hown hg
              · refine seqE ?_
                refine seqE ?_
                refine .inl (⟨_, _, c_laws_eqPol p0.Rule p1.Rule, (FzAs.same _), ?_⟩)
                refine litE (m := 3) rfl ?_
                refine brE hg (fun hg h8 => ?_) (fun hg h8 => ?_)
                · refine seqE ?_
                  exact leafE hown hg
                · refine seqE ?_
                  exact leafE hown hg
theorem rf_laws_eqConf (x : Conf) : laws_eqConf x x = true := by
  simp [laws_eqConf, rf_laws_eqPol]
def laws_eqAttr (p0 : Attr) (p1 : Attr) : Bool :=
  (bif (!decide (p0.Key = p1.Key)) then false else (bif (!(p0.Num == p1.Num)) then false else (bif (p0.N != p1.N) then false else (bif (!decide (p0.Text = p1.Text)) then false else true))))
theorem c_laws_eqAttr (p0 : Attr) (p1 : Attr) : FnOk prog 138 [.agg (Attr.cells p0), .agg (Attr.cells p1)] ⟨.one (.v (.bool (laws_eqAttr p0 p1))), [], [], false⟩ := by
  refine FnOk.intro (E := env) envOk wide func138 rfl (by kernel_rfl) rfl rfl ?_
  have hg := laws_eqAttr.eq_1 p0 p1
  have hown : ∀ g : Bool, AV.Own (AV.one (.v (.bool g))) := fun g => .v _
  refine seqE ?_
  refine litE (m := 0) rfl ?_
  refine litE (m := 1) rfl ?_
  refine seqE ?_
  refine seqE ?_
  refine brE hg (fun hg h1 => ?_) (fun hg h1 => ?_)
  · refine seqE ?_
    exact leafE hown hg
  · refine seqE ?_
    refine seqE ?_
    refine brE hg (fun hg h2 => ?_) (fun hg h2 => ?_)
    · refine seqE ?_
      exact leafE hown hg
    · refine seqE ?_
      refine seqE ?_
      refine brW hg (fun hg h3 => ?_) (fun hg h3 => ?_)
      · refine seqE ?_
        exact leafE hown hg
      · refine seqE ?_
        refine seqE ?_
        refine brE hg (fun hg h4 => ?_) (fun hg h4 => ?_)
        · refine seqE ?_
          exact leafE hown hg
        · refine seqE ?_
          exact leafE hown hg
theorem rf_laws_eqAttr (x : Attr) : laws_eqAttr x x = true := by
  simp [laws_eqAttr]
def laws_eqAttrS_b1 (p1 : (List Attr)) (i1 : Nat) (s1 : Unit) (a1 : Attr) : Step (Unit) Bool :=
  (bif (!(laws_eqAttr a1 (p1[i1]?.getD default))) then (.done false) else (.next ()))
def laws_eqAttrS (p0 : (List Attr)) (p1 : (List Attr)) : Bool :=
  (bif ((((p0).length : Nat) : Int) != (((p1).length : Nat) : Int)) then false else (Fin.get (fun s1 => true) (loopL (laws_eqAttrS_b1 p1) 0 () p0)))
theorem c_laws_eqAttrS (p0 : (List Attr)) (p1 : (List Attr)) : FnOk prog 131 [.one (.s false 4 (List.map Attr.cells p0)), .one (.s false 4 (List.map Attr.cells p1))] ⟨.one (.v (.bool (laws_eqAttrS p0 p1))), [], [], false⟩ := by
  refine FnOk.intro (E := env) envOk wide func131 rfl (by kernel_rfl) rfl rfl ?_
  have hg := laws_eqAttrS.eq_1 p0 p1
  have hown : ∀ g : Bool, AV.Own (AV.one (.v (.bool g))) := fun g => .v _
  refine seqE ?_
  refine seqE ?_
  refine seqE ?_
  refine lenM fun hN1 => ?_
  refine lenM fun hN2 => ?_
  refine brW hg (fun hg h3 => ?_) (fun hg h3 => ?_)
  · refine seqE ?_
    exact leafE hown hg
  · refine seqE ?_
    refine seqE ?_
    refine loopLE hg [0, 1] (fun x1 => [(5, .one (.v (.int .i64 ((x1.i : Nat) : Int))))]) (fun x1 => []) [] ?_ (fun x1 => ?_)
    · exact ⟨rfl, ⟨rfl, rfl, rfl, trivial⟩, trivial, trivial⟩
    refine seqE ?_
    refine seqE ?_
    refine lenM fun hN4 => ?_
    refine tstL (fun hi1 => ?_) (fun hi1 => ?_)
    · have hb1 := (x1.bdy hi1).trans (laws_eqAttrS_b1.eq_1 ..)
      have hw1 := wrap_succ hi1 (by first | assumption | omega)
      refine seqE ?_
      refine seqE ?_
      refine .inl ⟨by kernel_rfl, ?_⟩
      refine idxAt hi1 ?_
      refine idxOf (l := p1) (by (first | omega | (simp (disch := omega) only [wrap_small, mid_eq, List.length_map]; omega) | (simp; done) | (simp; omega) | (simp at *; omega) | (simp at *; done) | (simp_all; done) | (simp_all; omega))) (fun hq5 => ?_)
      refine ⟨_, _, c_laws_eqAttr (p0[x1.i]'hi1) (p1[x1.i]?.getD default), (FzAs.same _), ?_⟩
      refine brE hb1 (fun hb1 h6 => ?_) (fun hb1 h6 => x1.goE hi1 hb1 [] ⟨rfl, ⟨(eqInt hw1), rfl, rfl, trivial⟩, trivial, trivial⟩)
      refine seqE ?_
      have hg := donE hg (x1.outD hi1 hb1)
      exact leafE hown hg
    have hg := finE hg (x1.fin hi1)
    refine seqE ?_
    exact leafE hown hg
theorem rf_laws_eqAttrS (x : (List Attr)) : laws_eqAttrS x x = true := eqS_ok (b := laws_eqAttrS_b1) rf_laws_eqAttr (fun _ _ _ _ => rfl) (fun _ _ => rfl) x
def laws_eqSpan (p0 : Span) (p1 : Span) : Bool :=
  (bif (p0.Trace != p1.Trace) then false else (bif (p0.Id != p1.Id) then false else (bif (p0.Start != p1.Start) then false else (bif (p0.End != p1.End) then false else (bif (!(p0.Err == p1.Err)) then false else (bif (!(laws_eqAttrS p0.Attrs p1.Attrs)) then false else true))))))
theorem c_laws_eqSpan (p0 : Span) (p1 : Span) : FnOk prog 122 [.agg ((Span.cells false) p0), .agg ((Span.cells false) p1)] ⟨.one (.v (.bool (laws_eqSpan p0 p1))), [], [], false⟩ := by
  refine FnOk.intro (E := env) envOk wide func122 rfl (by kernel_rfl) rfl rfl ?_
  have hg := laws_eqSpan.eq_1 p0 p1
  have hown : ∀ g : Bool, AV.Own (AV.one (.v (.bool g))) := fun g => .v _
  refine seqE ?_
  refine litE (m := 0) rfl ?_
  refine litE (m := 1) rfl ?_
  refine seqE ?_
  refine seqE ?_
  refine brW hg (fun hg h1 => ?_) (fun hg h1 => ?_)
  · refine seqE ?_
    exact leafE hown hg
  · refine seqE ?_
    refine seqE ?_
    refine brW hg (fun hg h2 => ?_) (fun hg h2 => ?_)
    · refine seqE ?_
      exact leafE hown hg
    · refine seqE ?_
      refine seqE ?_
      refine brW hg (fun hg h3 => ?_) (fun hg h3 => ?_)
      · refine seqE ?_
        exact leafE hown hg
      · refine seqE ?_
        refine seqE ?_
        refine brW hg (fun hg h4 => ?_) (fun hg h4 => ?_)
        · refine seqE ?_
          exact leafE hown hg
        · refine seqE ?_
          refine seqE ?_
          refine brE hg (fun hg h5 => ?_) (fun hg h5 => ?_)
          · refine seqE ?_
            exact leafE hown hg
          · refine seqE ?_
            refine seqE ?_
            refine .inl (⟨_, _, c_laws_eqAttrS p0.Attrs p1.Attrs, (FzAs.same _), ?_⟩)
            refine litE (m := 3) rfl ?_
            refine brE hg (fun hg h6 => ?_) (fun hg h6 => ?_)
            · refine seqE ?_
              exact leafE hown hg
            · refine seqE ?_
              exact leafE hown hg
theorem rf_laws_eqSpan (x : Span) : laws_eqSpan x x = true := by
  simp [laws_eqSpan, rf_laws_eqAttrS]
def laws_eqSpanS_b1 (p1 : (List Span)) (i1 : Nat) (s1 : Unit) (a1 : Span) : Step (Unit) Bool :=
  (bif (!(laws_eqSpan a1 (p1[i1]?.getD default))) then (.done false) else (.next ()))
def laws_eqSpanS (p0 : (List Span)) (p1 : (List Span)) : Bool :=
  (bif ((((p0).length : Nat) : Int) != (((p1).length : Nat) : Int)) then false else (Fin.get (fun s1 => true) (loopL (laws_eqSpanS_b1 p1) 0 () p0)))
theorem c_laws_eqSpanS (p0 : (List Span)) (p1 : (List Span)) : FnOk prog 123 [.one (.s false 6 (List.map (Span.cells false) p0)), .one (.s false 6 (List.map (Span.cells false) p1))] ⟨.one (.v (.bool (laws_eqSpanS p0 p1))), [], [], false⟩ := by
  refine FnOk.intro (E := env) envOk wide func123 rfl (by kernel_rfl) rfl rfl ?_
  have hg := laws_eqSpanS.eq_1 p0 p1
  have hown : ∀ g : Bool, AV.Own (AV.one (.v (.bool g))) := fun g => .v _
  refine seqE ?_
  refine seqE ?_
  refine seqE ?_
  refine lenM fun hN1 => ?_
  refine lenM fun hN2 => ?_
  refine brW hg (fun hg h3 => ?_) (fun hg h3 => ?_)
  · refine seqE ?_
    exact leafE hown hg
  · refine seqE ?_
    refine seqE ?_
    refine loopLE hg [0, 1] (fun x1 => [(5, .one (.v (.int .i64 ((x1.i : Nat) : Int))))]) (fun x1 => []) [] ?_ (fun x1 => ?_)
    · exact ⟨rfl, ⟨rfl, rfl, rfl, trivial⟩, trivial, trivial⟩
    refine seqE ?_
    refine seqE ?_
    refine lenM fun hN4 => ?_
    refine tstL (fun hi1 => ?_) (fun hi1 => ?_)
    · have hb1 := (x1.bdy hi1).trans (laws_eqSpanS_b1.eq_1 ..)
      have hw1 := wrap_succ hi1 (by first | assumption | omega)
      refine seqE ?_
      refine seqE ?_
      refine .inl ⟨by kernel_rfl, ?_⟩
      refine idxAt hi1 ?_
      refine idxOf (l := p1) (by (first | omega | (simp (disch := omega) only [wrap_small, mid_eq, List.length_map]; omega) | (simp; done) | (simp; omega) | (simp at *; omega) | (simp at *; done) | (simp_all; done) | (simp_all; omega))) (fun hq5 => ?_)
      refine ⟨_, _, c_laws_eqSpan (p0[x1.i]'hi1) (p1[x1.i]?.getD default), (FzAs.same _), ?_⟩
      refine brE hb1 (fun hb1 h6 => ?_) (fun hb1 h6 => x1.goE hi1 hb1 [] ⟨rfl, ⟨(eqInt hw1), rfl, rfl, trivial⟩, trivial, trivial⟩)
      refine seqE ?_
      have hg := donE hg (x1.outD hi1 hb1)
      exact leafE hown hg
    have hg := finE hg (x1.fin hi1)
    refine seqE ?_
    exact leafE hown hg
theorem rf_laws_eqSpanS (x : (List Span)) : laws_eqSpanS x x = true := eqS_ok (b := laws_eqSpanS_b1) rf_laws_eqSpan (fun _ _ _ _ => rfl) (fun _ _ => rfl) x
def laws_eqTrail (p0 : Trail) (p1 : Trail) : Bool :=
  (bif (p0.Id != p1.Id) then false else (bif (p0.Stamp != p1.Stamp) then false else (bif (p0.First != p1.First) then false else (bif (!(laws_eqSpanS p0.Spans p1.Spans)) then false else true))))
theorem c_laws_eqTrail (p0 : Trail) (p1 : Trail) : FnOk prog 96 [.agg ((Trail.cells false) p0), .agg ((Trail.cells false) p1)] ⟨.one (.v (.bool (laws_eqTrail p0 p1))), [], [], false⟩ := by
  refine FnOk.intro (E := env) envOk wide func96 rfl (by kernel_rfl) rfl rfl ?_
  have hg := laws_eqTrail.eq_1 p0 p1
  have hown : ∀ g : Bool, AV.Own (AV.one (.v (.bool g))) := fun g => .v _
  refine seqE ?_
  refine litE (m := 0) rfl ?_
  refine litE (m := 1) rfl ?_
  refine seqE ?_
  refine seqE ?_
  refine brW hg (fun hg h1 => ?_) (fun hg h1 => ?_)
  · refine seqE ?_
    exact leafE hown hg
  · refine seqE ?_
    refine seqE ?_
    refine brW hg (fun hg h2 => ?_) (fun hg h2 => ?_)
    · refine seqE ?_
      exact leafE hown hg
    · refine seqE ?_
      refine seqE ?_
      refine brW hg (fun hg h3 => ?_) (fun hg h3 => ?_)
      · refine seqE ?_
        exact leafE hown hg
      · refine seqE ?_
        refine seqE ?_
        refine .inl (⟨_, _, c_laws_eqSpanS p0.Spans p1.Spans, (FzAs.same _), ?_⟩)
        refine litE (m := 3) rfl ?_
        refine brE hg (fun hg h4 => ?_) (fun hg h4 => ?_)
        · refine seqE ?_
          exact leafE hown hg
        · refine seqE ?_
          exact leafE hown hg
theorem rf_laws_eqTrail (x : Trail) : laws_eqTrail x x = true := by
  simp [laws_eqTrail, rf_laws_eqSpanS]
def laws_eqTrailS_b1 (p1 : (List Trail)) (i1 : Nat) (s1 : Unit) (a1 : Trail) : Step (Unit) Bool :=
  (bif (!(laws_eqTrail a1 (p1[i1]?.getD default))) then (.done false) else (.next ()))
def laws_eqTrailS (p0 : (List Trail)) (p1 : (List Trail)) : Bool :=
  (bif ((((p0).length : Nat) : Int) != (((p1).length : Nat) : Int)) then false else (Fin.get (fun s1 => true) (loopL (laws_eqTrailS_b1 p1) 0 () p0)))
theorem c_laws_eqTrailS (p0 : (List Trail)) (p1 : (List Trail)) : FnOk prog 52 [.one (.s false 4 (List.map (Trail.cells false) p0)), .one (.s false 4 (List.map (Trail.cells false) p1))] ⟨.one (.v (.bool (laws_eqTrailS p0 p1))), [], [], false⟩ := by
  refine FnOk.intro (E := env) envOk wide func52 rfl (by kernel_rfl) rfl rfl ?_
  have hg := laws_eqTrailS.eq_1 p0 p1
  have hown : ∀ g : Bool, AV.Own (AV.one (.v (.bool g))) := fun g => .v _
  refine seqE ?_
  refine seqE ?_
  refine seqE ?_
  refine lenM fun hN1 => ?_
  refine lenM fun hN2 => ?_
  refine brW hg (fun hg h3 => ?_) (fun hg h3 => ?_)
  · refine seqE ?_
    exact leafE hown hg
  · refine seqE ?_
    refine seqE ?_
    refine loopLE hg [0, 1] (fun x1 => [(5, .one (.v (.int .i64 ((x1.i : Nat) : Int))))]) (fun x1 => []) [] ?_ (fun x1 => ?_)
    · exact ⟨rfl, ⟨rfl, rfl, rfl, trivial⟩, trivial, trivial⟩
    refine seqE ?_
    refine seqE ?_
    refine lenM fun hN4 => ?_
    refine tstL (fun hi1 => ?_) (fun hi1 => ?_)
    · have hb1 := (x1.bdy hi1).trans (laws_eqTrailS_b1.eq_1 ..)
      have hw1 := wrap_succ hi1 (by first | assumption | omega)
      refine seqE ?_
      refine seqE ?_
      refine .inl ⟨by kernel_rfl, ?_⟩
      refine idxAt hi1 ?_
      refine idxOf (l := p1) (by (first | omega | (simp (disch := omega) only [wrap_small, mid_eq, List.length_map]; omega) | (simp; done) | (simp; omega) | (simp at *; omega) | (simp at *; done) | (simp_all; done) | (simp_all; omega))) (fun hq5 => ?_)
      refine ⟨_, _, c_laws_eqTrail (p0[x1.i]'hi1) (p1[x1.i]?.getD default), (FzAs.same _), ?_⟩
      refine brE hb1 (fun hb1 h6 => ?_) (fun hb1 h6 => x1.goE hi1 hb1 [] ⟨rfl, ⟨(eqInt hw1), rfl, rfl, trivial⟩, trivial, trivial⟩)
      refine seqE ?_
      have hg := donE hg (x1.outD hi1 hb1)
      exact leafE hown hg
    have hg := finE hg (x1.fin hi1)
    refine seqE ?_
    exact leafE hown hg
theorem rf_laws_eqTrailS (x : (List Trail)) : laws_eqTrailS x x = true := eqS_ok (b := laws_eqTrailS_b1) rf_laws_eqTrail (fun _ _ _ _ => rfl) (fun _ _ => rfl) x
def laws_eqStripe (p0 : Stripe) (p1 : Stripe) : Bool :=
  (bif (p0.Held != p1.Held) then false else (bif (!(laws_eqTrailS p0.L p1.L)) then false else true))
theorem c_laws_eqStripe (p0 : Stripe) (p1 : Stripe) : FnOk prog 89 [.agg ((Stripe.cells false) p0), .agg ((Stripe.cells false) p1)] ⟨.one (.v (.bool (laws_eqStripe p0 p1))), [], [], false⟩ := by
  refine FnOk.intro (E := env) envOk wide func89 rfl (by kernel_rfl) rfl rfl ?_
  have hg := laws_eqStripe.eq_1 p0 p1
  have hown : ∀ g : Bool, AV.Own (AV.one (.v (.bool g))) := fun g => .v _
  refine seqE ?_
  refine litE (m := 0) rfl ?_
  refine litE (m := 1) rfl ?_
  refine seqE ?_
  refine seqE ?_
  refine brW hg (fun hg h1 => ?_) (fun hg h1 => ?_)
  · refine seqE ?_
    exact leafE hown hg
  · refine seqE ?_
    refine seqE ?_
    refine .inl (⟨_, _, c_laws_eqTrailS p0.L p1.L, (FzAs.same _), ?_⟩)
    refine litE (m := 3) rfl ?_
    refine brE hg (fun hg h2 => ?_) (fun hg h2 => ?_)
    · refine seqE ?_
      exact leafE hown hg
    · refine seqE ?_
      exact leafE hown hg
theorem rf_laws_eqStripe (x : Stripe) : laws_eqStripe x x = true := by
  simp [laws_eqStripe, rf_laws_eqTrailS]
def laws_eqStripeS_b1 (p1 : (List Stripe)) (i1 : Nat) (s1 : Unit) (a1 : Stripe) : Step (Unit) Bool :=
  (bif (!(laws_eqStripe a1 (p1[i1]?.getD default))) then (.done false) else (.next ()))
def laws_eqStripeS (p0 : (List Stripe)) (p1 : (List Stripe)) : Bool :=
  (bif ((((p0).length : Nat) : Int) != (((p1).length : Nat) : Int)) then false else (Fin.get (fun s1 => true) (loopL (laws_eqStripeS_b1 p1) 0 () p0)))
theorem c_laws_eqStripeS (p0 : (List Stripe)) (p1 : (List Stripe)) : FnOk prog 44 [.one (.s false 2 (List.map (Stripe.cells false) p0)), .one (.s false 2 (List.map (Stripe.cells false) p1))] ⟨.one (.v (.bool (laws_eqStripeS p0 p1))), [], [], false⟩ := by
  refine FnOk.intro (E := env) envOk wide func44 rfl (by kernel_rfl) rfl rfl ?_
  have hg := laws_eqStripeS.eq_1 p0 p1
  have hown : ∀ g : Bool, AV.Own (AV.one (.v (.bool g))) := fun g => .v _
  refine seqE ?_
  refine seqE ?_
  refine seqE ?_
  refine lenM fun hN1 => ?_
  refine lenM fun hN2 => ?_
  refine brW hg (fun hg h3 => ?_) (fun hg h3 => ?_)
  · refine seqE ?_
    exact leafE hown hg
  · refine seqE ?_
    refine seqE ?_
    refine loopLE hg [0, 1] (fun x1 => [(5, .one (.v (.int .i64 ((x1.i : Nat) : Int))))]) (fun x1 => []) [] ?_ (fun x1 => ?_)
    · exact ⟨rfl, ⟨rfl, rfl, rfl, trivial⟩, trivial, trivial⟩
    refine seqE ?_
    refine seqE ?_
    refine lenM fun hN4 => ?_
    refine tstL (fun hi1 => ?_) (fun hi1 => ?_)
    · have hb1 := (x1.bdy hi1).trans (laws_eqStripeS_b1.eq_1 ..)
      have hw1 := wrap_succ hi1 (by first | assumption | omega)
      refine seqE ?_
      refine seqE ?_
      refine .inl ⟨by kernel_rfl, ?_⟩
      refine idxAt hi1 ?_
      refine idxOf (l := p1) (by (first | omega | (simp (disch := omega) only [wrap_small, mid_eq, List.length_map]; omega) | (simp; done) | (simp; omega) | (simp at *; omega) | (simp at *; done) | (simp_all; done) | (simp_all; omega))) (fun hq5 => ?_)
      refine ⟨_, _, c_laws_eqStripe (p0[x1.i]'hi1) (p1[x1.i]?.getD default), (FzAs.same _), ?_⟩
      refine brE hb1 (fun hb1 h6 => ?_) (fun hb1 h6 => x1.goE hi1 hb1 [] ⟨rfl, ⟨(eqInt hw1), rfl, rfl, trivial⟩, trivial, trivial⟩)
      refine seqE ?_
      have hg := donE hg (x1.outD hi1 hb1)
      exact leafE hown hg
    have hg := finE hg (x1.fin hi1)
    refine seqE ?_
    exact leafE hown hg
theorem rf_laws_eqStripeS (x : (List Stripe)) : laws_eqStripeS x x = true := eqS_ok (b := laws_eqStripeS_b1) rf_laws_eqStripe (fun _ _ _ _ => rfl) (fun _ _ => rfl) x
def laws_eqBucket (p0 : Bucket) (p1 : Bucket) : Bool :=
  (bif (p0.Rate != p1.Rate) then false else (bif (p0.Burst != p1.Burst) then false else (bif (p0.Tokens != p1.Tokens) then false else (bif (p0.At != p1.At) then false else true))))
theorem c_laws_eqBucket (p0 : Bucket) (p1 : Bucket) : FnOk prog 45 [.agg (Bucket.cells p0), .agg (Bucket.cells p1)] ⟨.one (.v (.bool (laws_eqBucket p0 p1))), [], [], false⟩ := by
  refine FnOk.intro (E := env) envOk wide func45 rfl (by kernel_rfl) rfl rfl ?_
  have hg := laws_eqBucket.eq_1 p0 p1
  have hown : ∀ g : Bool, AV.Own (AV.one (.v (.bool g))) := fun g => .v _
  refine seqE ?_
  refine litE (m := 0) rfl ?_
  refine litE (m := 1) rfl ?_
  refine seqE ?_
  refine seqE ?_
  refine brW hg (fun hg h1 => ?_) (fun hg h1 => ?_)
  · refine seqE ?_
    exact leafE hown hg
  · refine seqE ?_
    refine seqE ?_
    refine brW hg (fun hg h2 => ?_) (fun hg h2 => ?_)
    · refine seqE ?_
      exact leafE hown hg
    · refine seqE ?_
      refine seqE ?_
      refine brW hg (fun hg h3 => ?_) (fun hg h3 => ?_)
      · refine seqE ?_
        exact leafE hown hg
      · refine seqE ?_
        refine seqE ?_
        refine brW hg (fun hg h4 => ?_) (fun hg h4 => ?_)
        · refine seqE ?_
          exact leafE hown hg
        · refine seqE ?_
          exact leafE hown hg
theorem rf_laws_eqBucket (x : Bucket) : laws_eqBucket x x = true := by
  simp [laws_eqBucket]
def laws_eqVerdict (p0 : Verdict) (p1 : Verdict) : Bool :=
  (bif (p0.Trace != p1.Trace) then false else (bif (p0.Stamp != p1.Stamp) then false else (bif (!(p0.Keep == p1.Keep)) then false else true)))
theorem c_laws_eqVerdict (p0 : Verdict) (p1 : Verdict) : FnOk prog 90 [.agg (Verdict.cells p0), .agg (Verdict.cells p1)] ⟨.one (.v (.bool (laws_eqVerdict p0 p1))), [], [], false⟩ := by
  refine FnOk.intro (E := env) envOk wide func90 rfl (by kernel_rfl) rfl rfl ?_
  have hg := laws_eqVerdict.eq_1 p0 p1
  have hown : ∀ g : Bool, AV.Own (AV.one (.v (.bool g))) := fun g => .v _
  refine seqE ?_
  refine litE (m := 0) rfl ?_
  refine litE (m := 1) rfl ?_
  refine seqE ?_
  refine seqE ?_
  refine brW hg (fun hg h1 => ?_) (fun hg h1 => ?_)
  · refine seqE ?_
    exact leafE hown hg
  · refine seqE ?_
    refine seqE ?_
    refine brW hg (fun hg h2 => ?_) (fun hg h2 => ?_)
    · refine seqE ?_
      exact leafE hown hg
    · refine seqE ?_
      refine seqE ?_
      refine brE hg (fun hg h3 => ?_) (fun hg h3 => ?_)
      · refine seqE ?_
        exact leafE hown hg
      · refine seqE ?_
        exact leafE hown hg
theorem rf_laws_eqVerdict (x : Verdict) : laws_eqVerdict x x = true := by
  simp [laws_eqVerdict]
def laws_eqVerdictS_b1 (p1 : (List Verdict)) (i1 : Nat) (s1 : Unit) (a1 : Verdict) : Step (Unit) Bool :=
  (bif (!(laws_eqVerdict a1 (p1[i1]?.getD default))) then (.done false) else (.next ()))
def laws_eqVerdictS (p0 : (List Verdict)) (p1 : (List Verdict)) : Bool :=
  (bif ((((p0).length : Nat) : Int) != (((p1).length : Nat) : Int)) then false else (Fin.get (fun s1 => true) (loopL (laws_eqVerdictS_b1 p1) 0 () p0)))
end Go.Proofs.Tryz.Ev
