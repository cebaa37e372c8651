/- The abstract call is sound. -/
import Derived.Test.YtfcpgeanbklleaaGreatDoorFuns
set_option linter.unusedSectionVars false
set_option linter.unusedSimpArgs false
set_option linter.unusedVariables false
namespace Ab
open Go

section
variable {P : Program} {n : Nat} {j : Inj} {H : Heap} {w : World} {T : List Value} {C : Array Value} {b : FB} {k : List Item} {cs : List Frame} {ds : List Deferred}

theorem st_beginRound {l : Nat} {w' : World} (hr : b.rd = some l) (h : (Instr.beginRound l).run P w = .ok () w') :
    step P (lone (Ab.mk b C (.beginRound :: k) ds) cs w) = .next (lone (Ab.mk b C k ds) cs w') :=
  step_lone_go (by simp [stepG, stepG.exec, Ab.mk, hr, stepG.apply, Sem.run_bind, h, Result.andThen, Frame.finish, GStep.bare_after])

theorem st_roundEnd {l : Nat} {w' : World} {caller : Frame} {v : Value} (hr : b.rd = some l) (h : (Instr.endRound l none).run P w = .ok v w') :
    step P (lone (Ab.mk b C [] ds) (caller :: cs) w) = .next (lone (caller.finish v) cs w') :=
  step_lone_go (by simp [stepG, stepG.exec, Ab.mk, hr, Sem.runT_eq, h, GStep.bare_after, doReturn])

theorem st_roundRet {l : Nat} {w' : World} {caller : Frame} {v : Value} (hr : b.rd = some l) (h : (Instr.endRound l (some .ret)).run P w = .ok v w') :
    step P (lone (Ab.mk b C (.code .ret :: k) ds) (caller :: cs) w) = .next (lone (caller.finish v) cs w') :=
  step_lone_go (by simp [stepG, stepG.exec, Ab.mk, hr, Sem.runT_eq, h, GStep.bare_after, doReturn])

theorem st_roundExit {l id : Nat} {w' : World} {caller : Frame} {v : Value} (hr : b.rd = some l) (hk : exitTo id k = none) (h : (Instr.endRound l (some (.exit id))).run P w = .ok v w') :
    step P (lone (Ab.mk b C (.code (.exit id) :: k) ds) (caller :: cs) w) = .next (lone (caller.finish v) cs w') :=
  step_lone_go (by simp [stepG, stepG.exec, Ab.mk, hr, hk, Sem.runT_eq, h, GStep.bare_after, doReturn])

/-- The abstract program is the program's own. -/
def Agrees (P : Program) (AP : AProg) : Prop := ∀ f a, AP f = some a → ∃ fn, P.funcs[f]? = some fn ∧ cFunc P fn = some a

theorem cFunc_some {fn : Func} {a : AFunc} (h : cFunc P fn = some a) : ∃ body, fn.body = some body ∧ cCode P fn.ntmps body = some a.body ∧ fn.results.toList.mapM (cRes P) = some a.results ∧ (fn.name == "runtime.NumGoroutine") = false ∧
    a.ntmps = fn.ntmps ∧ a.nargs ≤ fn.ntmps := by
  unfold cFunc at h
  split at h
  · simp at h
  · rename_i body hb
    split at h
    · rename_i c rs hc hr
      split at h
      · simp at h
      · rename_i hno
        simp only [Option.some.injEq] at h
        subst h
        rw [not_or] at hno
        exact ⟨body, hb, hc, hr, by simpa using hno.1, rfl, by simpa using hno.2⟩
    · simp at h

theorem fn_sound (hmix : P.follows .mixedOrders = true) {AP : AProg} (hAP : Agrees P AP) {f : FuncId} {args : List Value} {R : Value → Heap → Prop} (h : callBody AP (Conc P) (.fn f) args H R) : Conc P (.fn f) args H R := by
  simp only [callBody] at h
  split at h
  · rename_i a ha
    obtain ⟨hlen, hwp⟩ := h
    obtain ⟨fn, hf, hc⟩ := hAP f a ha
    obtain ⟨body, hb, hcode, hres, hname, hnt, hna⟩ := cFunc_some hc
    refine ⟨⟨fn, hf, by rw [hb]; rfl, hname⟩, ?_⟩
    intro j w cargs hs hargs cs
    have hcl : cargs.size = args.length := by rw [hargs.length, Array.length_toList]
    have hent : Frame.enter P f cargs .normal = Ab.mk ⟨f, none⟩ (cargs ++ Array.replicate (fn.ntmps - cargs.size) undef) [.code body] [] := by
      simp [Frame.enter, Ab.mk, hf, hb]
      rfl
    obtain ⟨e, T', H', j', C', ds', rs', w', h1, h2, h3, h4, h5, h6, h7⟩ := code_sound (n := fn.ntmps) (n0 := w.heap.size) hmix (b := ⟨f, none⟩) (k := []) (cs := cs) (ds := []) (rs := []) (C := cargs ++ Array.replicate (fn.ntmps - cargs.size) undef) (j := j) (w := w) body hcode hwp rfl trivial hs
      (by
        rw [Array.toList_append, Array.toList_replicate, hnt, ← hcl]
        exact hargs.append (VsRel.replicate (VRel.undef j) _))
      (by simp; omega) (Nat.le_refl _) ⟨rfl, List.nodup_nil, by simp⟩
    have fin : ∀ k' : List Item, Steps P (lone (Ab.mk ⟨f, none⟩ (cargs ++ Array.replicate (fn.ntmps - cargs.size) undef) [.code body] []) cs w) (lone { Ab.mk ⟨f, none⟩ C' k' ds' with mode := .returning } cs w') → retP H' T' a.results R →
        ∃ v H' j' cv w' fr, R v H' ∧ VRel j' v cv ∧ Sim P j' H' w' ∧ Step j H w j' H' w' ∧ Steps P (lone (Frame.enter P f cargs .normal) cs w) (lone fr cs w') ∧ fr.fn = f ∧ fr.leaving P w' (.returned cv) := by
      intro k' hst hret
      unfold retP at hret
      split at hret
      · rename_i vs hvs
        obtain ⟨w2, g1, g2, g3⟩ := leave_marks cs (Nat.le_refl _) (fr := { Ab.mk ⟨f, none⟩ C' k' ds' with mode := .returning }) rfl rfl h6 h2 h5
        obtain ⟨cv, g4, g5⟩ := results_sound g1 h3 hres hvs
        refine ⟨_, _, j', cv, w2, { { Ab.mk ⟨f, none⟩ C' k' ds' with mode := .returning } with defers := [] }, hret, g5, g1, g2, ?_, ?_, ?_⟩
        · rw [hent]; exact hst.trans g3
        · rfl
        · exact ⟨rfl, rfl, rfl, fn, hf, g4⟩
      · exact hret.elim
    cases e with
    | normal => exact fin [] (Steps.trans h7 (Steps.one (st_end rfl))) h1
    | jump jp =>
      cases jp with
      | exit id => exact h1.elim
      | ret =>
        obtain ⟨k', h8⟩ := h7
        exact fin _ (h8.trans (Steps.one (st_ret rfl))) h1
  · exact h.elim

theorem putAll_length : ∀ {ps : List Tmp} {as T : List Value}, (putAll ps as T).length = T.length
  | [], _, _ => by simp [putAll]
  | _ :: _, [], _ => by simp [putAll]
  | p :: ps, a :: as, T => by simp only [putAll]; rw [putAll_length]; simp

theorem putAll_rel : ∀ {ps : List Tmp} {as as' T : List Value} {C : Array Value}, VsRel j as as' → VsRel j T C.toList → VsRel j (putAll ps as T) ((ps.zip as').foldl (fun tmps (t, a) => tmps.setIfInBounds t a) C).toList
  | [], _, _, _, _, _, hT => by simpa [putAll] using hT
  | _ :: _, _, _, _, _, .nil, hT => by simpa [putAll] using hT
  | p :: ps, _, _, T, C, .cons h t, hT => by
    simp only [putAll, List.zip_cons_cons, List.foldl_cons]
    exact putAll_rel t (by rw [Array.toList_setIfInBounds]; exact hT.set p h)

theorem foldl_size : ∀ {l : List (Tmp × Value)} {C : Array Value}, (l.foldl (fun tmps (t, a) => tmps.setIfInBounds t a) C).size = C.size
  | [], _ => rfl
  | x :: l, C => by rw [List.foldl_cons, foldl_size]; simp

theorem round_sound (hmix : P.follows .mixedOrders = true) {AP : AProg} {l : Nat} {args : List Value} {R : Value → Heap → Prop} (h : callBody AP (Conc P) (.round l) args H R) : Conc P (.round l) args H R := by
  simp only [callBody] at h
  split at h
  · rename_i r hg
    obtain ⟨hlen, hwp⟩ := h
    intro j w cargs s hs hargs hj
    obtain ⟨h0, r', ho, hr⟩ := hs.blk _ _ _ hj hg
    have hcl : cargs.size = args.length := by rw [hargs.length, Array.length_toList]
    refine ⟨r', ho, by rw [hcl, hlen, ← hr.params]; simp, ?_⟩
    intro caller cs
    have hfold : (r'.params.zip cargs).foldl (fun tmps (t, a) => tmps.setIfInBounds t a) r'.tmps = (r.params.zip cargs.toList).foldl (fun tmps (t, a) => tmps.setIfInBounds t a) r'.tmps := by
      rw [← Array.foldl_toList, Array.toList_zip, hr.params]
    rw [hfold]
    generalize hC : (r.params.zip cargs.toList).foldl (fun tmps (t, a) => tmps.setIfInBounds t a) r'.tmps = C0
    have hrel : VsRel j (putAll r.params args r.tmps) C0.toList := by rw [← hC]; exact putAll_rel hargs hr.tmps
    have hsize : C0.size = r.tmps.length := by rw [← hC, foldl_size, hr.tmps.length, Array.length_toList]
    have hent : Frame.round s.blk r'.fn C0 r'.assign r'.body .normal = Ab.mk ⟨r'.fn, some s.blk⟩ C0 [.code r'.assign, .beginRound, .code r'.body] [] := rfl
    rw [hent]
    obtain ⟨e, T', H', j', C', ds', rs', w', h1, h2, h3, h4, h5, h6, h7⟩ := code_sound (n := r.tmps.length) (n0 := w.heap.size) hmix (b := ⟨r'.fn, some s.blk⟩) (k := [.beginRound, .code r'.body]) (cs := caller :: cs) (ds := []) (rs := []) (C := C0) (j := j) (w := w) r'.assign hr.assign hwp
      hr.fn.symm ⟨s, hj, rfl⟩ hs hrel hsize (Nat.le_refl _) ⟨rfl, List.nodup_nil, by simp⟩
    cases e with
    | jump jp => exact h1.elim
    | normal =>
      simp only [roundBegin] at h1
      split at h1
      · rename_i r2 hg2
        obtain ⟨hready, hwp2⟩ := h1
        have hj2 := h5.sub _ _ hj
        obtain ⟨h02, r2', ho2, hr2⟩ := h2.blk _ _ _ hj2 hg2
        have hlt := (h2.dom _ _ hj2).2
        have hgo := run_getObj (P := P) ho2
        have hso := run_setObj (P := P) ho2 (o' := .loop { r2' with state := .busy })
        obtain ⟨w1, hw1⟩ : ∃ w1 : World, w1 = { w' with heap := w'.heap.setIfInBounds s.blk (.loop { r2' with state := .busy }) } := ⟨_, rfl⟩
        have hbr : (Instr.beginRound s.blk).run P w' = .ok () w1 := by
          rw [hw1]
          have : r2'.state = .ready := hr2.state.trans hready
          simp [Instr.beginRound, Instr.getLoop, Sem.run_bind, hgo, hso, Result.andThen, this]
        have hchg := h2.change (w' := w1) (x' := .loop { r2 with state := .busy }) hj2 hg2 rfl
          (by intro q hq; rw [hw1]; simp [Ne.symm hq]) (by rw [hw1]; simp) (by rw [hw1]) (by rw [hw1]) (by rw [hw1]) (by
            have : w1.heap[s.blk]? = some (.loop { r2' with state := .busy }) := by rw [hw1]; simp [hlt]
            rw [this]
            exact ⟨h02, _, rfl, ⟨rfl, hr2.pending, hr2.fn, hr2.tmps, hr2.params, hr2.assign, hr2.body⟩⟩)
        have hst1 := h5.trans hchg.2
        -- the body is the first record's
        obtain ⟨e, T3, H3, j3, C3, ds3, rs3, w3, g1, g2, g3, g4, g5, g6, g7⟩ := code_sound (n := r.tmps.length) (n0 := w.heap.size) hmix (b := ⟨r'.fn, some s.blk⟩) (k := []) (cs := caller :: cs) (ds := ds') (rs := rs') (C := C') (j := j') (w := w1) r'.body hr.body hwp2
          hr.fn.symm ⟨s, hj2, rfl⟩ hchg.1 h3 h4 hst1.keep.size (h6.step hchg.2)
        have hsteps := Steps.trans h7 (Steps.one (st_beginRound (b := ⟨r'.fn, some s.blk⟩) rfl hbr))
        simp only [roundEnd] at g1
        split at g1
        · rename_i r4 hg4
          have hj3 := g5.sub _ _ hj2
          obtain ⟨h04, r4', ho4, hr4⟩ := g2.blk _ _ _ hj3 hg4
          have hlt3 := (g2.dom _ _ hj3).2
          have hgo4 := run_getObj (P := P) ho4
          have hst3 := hst1.trans g5
          have done : ∀ (pe : Option Jump), R (.bool pe.isNone) (H3.set l (.loop { r4 with state := if pe.isNone then .ready else .done, pending := pe })) →
              (∀ v w5, (Instr.endRound s.blk (pe.map Jump.code)).run P w3 = .ok v w5 → Steps P (lone (Ab.mk ⟨r'.fn, some s.blk⟩ C0 [.code r'.assign, .beginRound, .code r'.body] []) (caller :: cs) w) (lone (caller.finish v) cs w5)) →
              ∃ v H' j' cv w', R v H' ∧ VRel j' v cv ∧ Sim P j' H' w' ∧ Step j H w j' H' w' ∧ Steps P (lone (Ab.mk ⟨r'.fn, some s.blk⟩ C0 [.code r'.assign, .beginRound, .code r'.body] []) (caller :: cs) w) (lone (caller.finish cv) cs w') := by
            intro pe hR hgo
            obtain ⟨o5, ho5⟩ : ∃ o5 : Loop, o5 = { r4' with state := if (pe.map Jump.code).isNone then .ready else .done, pending := pe.map Jump.code } := ⟨_, rfl⟩
            have hso4 := run_setObj (P := P) ho4 (o' := .loop o5)
            obtain ⟨w5, hw5⟩ : ∃ w5 : World, w5 = { w3 with heap := w3.heap.setIfInBounds s.blk (.loop o5) } := ⟨_, rfl⟩
            have her : (Instr.endRound s.blk (pe.map Jump.code)).run P w3 = .ok (.bool pe.isNone) w5 := by
              rw [hw5]
              rw [ho5] at hso4 ⊢
              simp [Instr.endRound, Instr.getLoop, Sem.run_bind, hgo4, Result.andThen]
              simp at hso4
              simp [hso4]
            have hchg4 := g2.change (w' := w5) (x' := .loop { r4 with state := if pe.isNone then .ready else .done, pending := pe }) hj3 hg4 rfl
              (by intro q hq; rw [hw5]; simp [Ne.symm hq]) (by rw [hw5]; simp) (by rw [hw5]) (by rw [hw5]) (by rw [hw5]) (by
                have : w5.heap[s.blk]? = some (.loop o5) := by rw [hw5]; simp [hlt3]
                rw [this]
                exact ⟨h04, _, rfl, ⟨by rw [ho5]; simp, by rw [ho5], by rw [ho5]; exact hr4.fn, by rw [ho5]; exact hr4.tmps, by rw [ho5]; exact hr4.params, by rw [ho5]; exact hr4.assign, by rw [ho5]; exact hr4.body⟩⟩)
            exact ⟨_, _, j3, _, w5, hR, .bool _, hchg4.1, hst3.trans hchg4.2, hgo _ _ her⟩
          cases e with
          | normal => exact done none g1 fun v w5 hv => hsteps.trans (Steps.trans g7 (Steps.one (st_roundEnd rfl hv)))
          | jump jp =>
            cases jp with
            | ret =>
              obtain ⟨k', g8⟩ := g7
              exact done (some .ret) g1 fun v w5 hv => hsteps.trans (g8.trans (Steps.one (st_roundRet rfl hv)))
            | exit id =>
              obtain ⟨k', g8, g9⟩ := g7
              exact done (some (.exit id)) g1 fun v w5 hv => hsteps.trans (g9.trans (Steps.one (st_roundExit rfl (g8.trans rfl) hv)))
        · exact g1.elim
      · exact h1.elim
  · exact h.elim

/-- THE ABSTRACT CALL IS SOUND. -/
theorem acall_sound (hmix : P.follows .mixedOrders = true) {AP : AProg} (hAP : Agrees P AP) {B : CallPred} (hB : ∀ t args H R, B t args H R → Conc P t args H R) {t : Tgt} {args : List Value} {R : Value → Heap → Prop}
    (h : ACall AP B t args H R) : Conc P t args H R := by
  refine h (Conc P) hB fun t args H R hb => ?_
  cases t with
  | fn f => exact fn_sound hmix hAP hb
  | round l => exact round_sound hmix hb

end
end Ab
