/- One operation of a region, in the machine. -/
import Derived.Test.YtfcpgeanbklleaaGreatDoorMach
set_option linter.unusedSectionVars false
set_option linter.unusedSimpArgs false
set_option linter.unusedVariables false
namespace Ab
open Go

/-- THE CONCRETE MEANING OF A CALL. -/
def Conc (P : Program) : CallPred := fun t args H R =>
  match t with
  | .fn f => (∃ fn, P.funcs[f]? = some fn ∧ fn.body.isSome = true ∧ (fn.name == "runtime.NumGoroutine") = false) ∧
      ∀ j w (cargs : Array Value), Sim P j H w → VsRel j args cargs.toList → ∀ cs, ∃ v H' j' cv w' fr, R v H' ∧ VRel j' v cv ∧ Sim P j' H' w' ∧ Step j H w j' H' w' ∧
        Steps P (lone (Frame.enter P f cargs .normal) cs w) (lone fr cs w') ∧ fr.fn = f ∧ fr.leaving P w' (.returned cv)
  | .round l => ∀ j w (cargs : Array Value) s, Sim P j H w → VsRel j args cargs.toList → j l = some s → ∃ r', w.heap[s.blk]? = some (.loop r') ∧ cargs.size = r'.params.size ∧
      ∀ caller cs, ∃ v H' j' cv w', R v H' ∧ VRel j' v cv ∧ Sim P j' H' w' ∧ Step j H w j' H' w' ∧
        Steps P (lone (Frame.round s.blk r'.fn ((r'.params.zip cargs).foldl (fun tmps (t, a) => tmps.setIfInBounds t a) r'.tmps) r'.assign r'.body .normal) (caller :: cs) w) (lone (caller.finish cv) cs w')

section
variable {P : Program} {j : Inj} {w : World} {H : Heap} {T : List Value} {C : Array Value}

theorem getD_toList (C : Array Value) (t : Nat) : C.getD t undef = C.toList.getD t undef := by
  simp [Array.getD_eq_getD_getElem?]

theorem ev_rel (hs : Sim P j H w) (hT : VsRel j T C.toList) {x : Operand} (hx : okOperand P.globals.size x = true) : VRel j (ev T x) (cev C x) := by
  cases x with
  | tmp t =>
    simp only [ev, cev, getD_toList]
    exact hT.getD t
  | const v => exact okConst_rel j hx
  | global g =>
    simp only [okOperand, decide_eq_true_eq] at hx
    obtain ⟨s, h1, h2, h3⟩ := hs.glob g hx
    have := VRel.ptr (j := j) (b := g) (o := 0) h1
    rw [h2, h3] at this
    exact this
  | func f => exact .func f .nil .nil

theorem opRel (hs : Sim P j H w) (hT : VsRel j T C.toList) {a : AOp} (ha : a.operands.all (okOperand P.globals.size) = true) : OpRel j (ev T) (cev C) a :=
  fun x hx => ev_rel hs hT (List.all_eq_true.1 ha x hx)

theorem cput_rel (hT : VsRel j T C.toList) {d : Option Tmp} {v v' : Value} (hv : VRel j v v') : VsRel j (put d v T) (cput d v' C).toList := by
  cases d with
  | none => exact hT
  | some t => simp only [put, cput, Array.toList_setIfInBounds]; exact hT.set t hv

theorem want_rel (hT : VsRel j T C.toList) {ops : Array Oper} {o : Oper} {g : Option (Tmp × Bool)} (hg : cGuard ops o.guard = some g) : Region.wanted o (yielded ops C) = wantB g T := by
  unfold cGuard at hg
  split at hg
  · rename_i h
    simp only [Option.some.injEq] at hg; subst hg
    simp [Region.wanted, h, wantB]
  · rename_i i b h
    split at hg
    · rename_i t ht
      simp only [Option.some.injEq] at hg; subst hg
      simp only [Region.wanted, h, wantB, yielded, ht, Option.bind_some]
      have hv := hT.getD t
      have hc : ∀ v, C[t]? = some v → C.toList.getD t undef = v := fun v hv => by simp [hv]
      cases hct : C[t]? with
      | none =>
        have hl : T[t]? = none := by
          rw [List.getElem?_eq_none_iff, hT.length]
          rw [Array.getElem?_eq_none_iff] at hct
          simpa using hct
        simp [List.getD, hl, undef]
      | some v =>
        rw [hc v hct] at hv
        generalize T.getD t undef = x at hv ⊢
        cases hv <;> simp
    · simp at hg

theorem EsRel.mem' : ∀ {a b : List MapEntry} {e' : MapEntry}, EsRel j a b → e' ∈ b → ∃ e ∈ a, ERel j e e'
  | _, _, _, .nil, h => by simp at h
  | _, _, _, .cons hv t, h => by
    simp only [List.mem_cons] at h
    rcases h with rfl | h
    · exact ⟨_, by simp, hv⟩
    · obtain ⟨e, h1, h2⟩ := EsRel.mem' t h
      exact ⟨e, by simp [h1], h2⟩

theorem EsRel.mem : ∀ {a b : List MapEntry} {e : MapEntry}, EsRel j a b → e ∈ a → ∃ e' ∈ b, ERel j e e'
  | _, _, _, .nil, h => by simp at h
  | _, _, _, .cons hv t, h => by
    simp only [List.mem_cons] at h
    rcases h with rfl | h
    · exact ⟨_, by simp, hv⟩
    · obtain ⟨e, h1, h2⟩ := EsRel.mem t h
      exact ⟨e, by simp [h1], h2⟩

theorem Step.drawn (d : Nat) : Step j H w j H { w with drawn := d } :=
  ⟨.refl j, fun _ _ h => .inl h, fun b s x h1 h2 h3 => .inr ⟨b, s, x, h1, h2, h3, rfl⟩, fun b s h => .inr ⟨b, s, h, rfl⟩, Nat.le_refl _, ⟨Nat.le_refl _, rfl, rfl, rfl, fun _ _ _ => rfl⟩⟩

theorem choose_some {n : Nat} (hn : 0 < n) : ∃ i d, i < n ∧ (choose (.mapNext n)).run P w = .ok i { w with drawn := d } := by
  rw [run_choose]
  by_cases hf : (Question.mapNext n).forced = true
  · rw [if_pos hf]; exact ⟨0, w.drawn, hn, rfl⟩
  · rw [if_neg hf]; exact ⟨_, w.drawn + 1, Nat.mod_lt _ hn, rfl⟩

/-- The choice of a step over a map, in the model. -/
theorem next_sound (hs : Sim P j H w) {it it' : Value} {ty : TypeId} {K : Value → Heap → Prop} (hit : VRel j it it') (h : iterNext H it K) :
    ∃ v H' v' w', K v H' ∧ (Instr.next it' false ty).run P w = .ok v' w' ∧ VRel j v v' ∧ Sim P j H' w' ∧ Step j H w j H' w' := by
  unfold iterNext at h
  split at h
  · rename_i r
    obtain ⟨s, hj, rfl⟩ := hit.inv_ptr
    split at h
    · rename_i since seen last hg
      obtain ⟨h0, m', seen', ho, hseen, hm⟩ := hs.blk _ _ _ hj hg
      cases m' with
      | some _ => exact hm.elim
      | none =>
        refine ⟨_, _, .tuple #[.bool false], w, h, ?_, .tuple (.cons (.bool _) .nil), hs, Step.refl _ _ _⟩
        have hgo : (getObj s.blk).run P w = .ok (.mapIter none since seen' last) w := by simp [getObj, Sem.run, ho]
        rw [h0]
        simp [Instr.next, hgo]
    · rename_i m since seen last hg
      split at h
      · rename_i es clock hgm
        obtain ⟨hc1, hc2, hc3⟩ := h
        obtain ⟨h0, m', seen', ho, hseen, hm⟩ := hs.blk _ _ _ hj hg
        cases m' with
        | none => exact hm.elim
        | some m' =>
          obtain ⟨sm, hjm, rfl⟩ := hm
          obtain ⟨hm0, es', hom, hes⟩ := hs.blk _ _ _ hjm hgm
          have hgo : (getObj s.blk).run P w = .ok (.mapIter (some sm.blk) since seen' last) w := by simp [getObj, Sem.run, ho]
          have hgm' := run_getObj_map (P := P) (w := w) hom
          have hnot : ¬ ((!seen'.isEmpty && !es'.isEmpty && es'.all (fun e => decide (e.born ≥ last))) = true) := by
            intro hall
            simp only [Bool.and_eq_true, Bool.not_eq_true'] at hall
            obtain ⟨⟨a1, a2⟩, a3⟩ := hall
            rcases hc1 with e | e | ⟨e, he, hlt⟩
            · have : seen' = #[] := Array.ext' (by rw [hseen, e])
              rw [this] at a1; simp at a1
            · have : es' = #[] := by
                have := hes.length
                rw [e] at this
                simpa using this.symm
              rw [this] at a2; simp at a2
            · obtain ⟨e', he', her⟩ := hes.mem he
              have := Array.all_eq_true_iff_forall_mem.1 a3 e' (by simpa using he')
              simp only [decide_eq_true_eq] at this
              have := her.born
              omega
          -- the candidates
          have hcand : ∃ cand : Array (Option MapEntry), cand = (if ((es'.filter fun e => !seen'.contains e.born).filter (fun e => decide (e.born < since))).isEmpty then #[none] else #[]) ++ (((es'.filter fun e => !seen'.contains e.born).filter (fun e => decide (e.born < since))) ++ ((es'.filter fun e => !seen'.contains e.born).filter (fun e => decide (e.born ≥ since)))).map some := ⟨_, rfl⟩
          obtain ⟨cand, hcd⟩ := hcand
          have hpos : 0 < cand.size := by
            rw [hcd]
            by_cases hemp : ((es'.filter fun e => !seen'.contains e.born).filter (fun e => decide (e.born < since))).isEmpty = true
            · rw [if_pos hemp, Array.size_append]
              have : (#[none] : Array (Option MapEntry)).size = 1 := rfl
              omega
            · rw [if_neg hemp]
              have : 0 < ((es'.filter fun e => !seen'.contains e.born).filter (fun e => decide (e.born < since))).size := by
                rw [Nat.pos_iff_ne_zero]
                intro h0
                exact hemp (by simpa [Array.isEmpty] using h0)
              simp only [Array.size_append, Array.size_map, Array.size_empty]
              omega
          obtain ⟨i, d, hi, hch⟩ := choose_some (P := P) (w := w) hpos
          have hci : cand[i]? = some cand[i] := Array.getElem?_eq_getElem hi
          have hrun : ∀ c, cand[i]? = some c → (Instr.next (.pointer (some ⟨s.blk, s.sh + 0, none⟩)) false ty).run P w = (match c with
              | some e => ((setObj s.blk (.mapIter (some sm.blk) since (seen'.push e.born) clock)).run P { w with drawn := d }).andThen fun _ w' => .ok (.tuple #[.bool true, e.key, e.val]) w'
              | none => .ok (.tuple #[.bool false]) { w with drawn := d }) := by
            intro c hc
            rw [h0]
            unfold Instr.next
            simp only [Nat.add_zero, Sem.run_bind, hgo, Result.andThen_ok, hgm', hnot, if_false, Sem.run_pure]
            rw [← hcd]
            rw [if_neg (by decide)]
            simp only [Sem.run_bind, hch, Result.andThen_ok, hc]
            cases c with
            | none => rfl
            | some e => simp
          have hsd := hs.drawn (w := w) d
          cases hcv : cand[i] with
          | none =>
            rw [hcv] at hci
            refine ⟨_, _, .tuple #[.bool false], { w with drawn := d }, hc2 ?_, hrun none hci, .tuple (.cons (.bool _) .nil), hsd, Step.drawn d⟩
            intro e he hlt
            rw [hcd] at hci
            by_cases hemp : ((es'.filter fun e => !seen'.contains e.born).filter (fun e => decide (e.born < since))).isEmpty = true
            · obtain ⟨e', he', her⟩ := hes.mem he
              have hnm : ¬ e' ∈ ((es'.filter fun e => !seen'.contains e.born).filter (fun e => decide (e.born < since))) := by
                have : ((es'.filter fun e => !seen'.contains e.born).filter (fun e => decide (e.born < since))) = #[] := by simpa [Array.isEmpty] using hemp
                rw [this]; simp
              simp only [Array.mem_filter, Bool.not_eq_true', Array.contains_eq_mem, decide_eq_false_iff_not, decide_eq_true_eq, not_and, Decidable.not_not] at hnm
              by_cases hsn : e'.born ∈ seen'
              · rw [her.born, ← hseen]; simpa using hsn
              · exfalso
                have := hnm ⟨by simpa using he', hsn⟩
                have := her.born
                omega
            · exfalso
              rw [if_neg hemp] at hci
              have h1 := Array.mem_of_getElem? hci
              simp only [Array.mem_append, Array.mem_map] at h1
              rcases h1 with h1 | ⟨a, _, h3⟩
              · simp at h1
              · cases h3
          | some e' =>
            rw [hcv] at hci
            have hmem : e' ∈ es'.toList ∧ e'.born ∉ seen'.toList := by
              have h1 := Array.mem_of_getElem? hci
              rw [hcd] at h1
              simp only [Array.mem_append, Array.mem_map, Array.mem_filter] at h1
              rcases h1 with h1 | ⟨e2, h2, h3⟩
              · exfalso; split at h1 <;> simp at h1
              · cases h3
                have : e' ∈ es' ∧ (!seen'.contains e'.born) = true := by
                  rcases h2 with h2 | h2 <;> exact h2.1
                exact ⟨by simpa using this.1, by simpa using this.2⟩
            obtain ⟨e, he, her⟩ := hes.mem' hmem.1
            have hK := hc3 e he (by rw [her.born, ← hseen]; exact hmem.2)
            have hlt := (hs.dom _ _ hj).2
            have hset : (setObj s.blk (.mapIter (some sm.blk) since (seen'.push e'.born) clock)).run P { w with drawn := d } = .ok () { w with drawn := d, heap := w.heap.setIfInBounds s.blk (.mapIter (some sm.blk) since (seen'.push e'.born) clock) } := by
              simp [setObj, Sem.run, ho]
            have hchg := hsd.change (w' := { w with drawn := d, heap := w.heap.setIfInBounds s.blk (.mapIter (some sm.blk) since (seen'.push e'.born) clock) }) (x' := .iter (some m) since (seen ++ [e.born]) clock) hj hg rfl
              (by intro r' hr'; simp [Ne.symm hr']) (by simp) rfl rfl rfl (by
                have : ({ w with drawn := d, heap := w.heap.setIfInBounds s.blk (.mapIter (some sm.blk) since (seen'.push e'.born) clock) } : World).heap[s.blk]? = some (.mapIter (some sm.blk) since (seen'.push e'.born) clock) := by simp [hlt]
                rw [this]
                exact ⟨h0, some sm.blk, _, rfl, by rw [Array.toList_push, hseen, her.born], sm, hjm, rfl⟩)
            refine ⟨_, _, .tuple #[.bool true, e'.key, e'.val], _, hK, ?_, .tuple (.cons (.bool _) (.cons her.key (.cons her.val .nil))), hchg.1, (Step.drawn d).trans hchg.2⟩
            rw [hrun _ hci]
            simp only [hset, Result.andThen_ok]
      · exact h.elim
    · exact h.elim
  · exact h.elim

/-! ### A call -/

theorem resolve_func {f : FuncId} {first captured : Array Value} {ρ : Operand → Value} {c : Call} {x : Operand} {ty : TypeId} (hc : c.callee = .value x) (hx : ρ x = .func (.func f) first captured) :
    (do let d ← resolve ρ c ty; invoke d.target d.args).run P w = (callFunc f ((first ++ c.args.map ρ) ++ captured)).run P w := by
  simp [resolve, hc, hx, Deferred.ofValue, invoke]

theorem resolve_yield {l : Nat} {first captured : Array Value} {ρ : Operand → Value} {c : Call} {x : Operand} {ty : TypeId} (hc : c.callee = .value x) (hx : ρ x = .func (.yield l) first captured) :
    (do let d ← resolve ρ c ty; invoke d.target d.args).run P w = (Instr.yield l (first ++ c.args.map ρ)).run P w := by
  simp [resolve, hc, hx, Deferred.ofValue, invoke]

theorem run_callFunc {f : FuncId} {args : Array Value} {fn : Func} (h1 : P.funcs[f]? = some fn) (h2 : fn.body.isSome = true) (h3 : (fn.name == "runtime.NumGoroutine") = false) : (callFunc f args).run P w = .ok (.enter f args) w := by
  have h2' : fn.body ≠ none := by intro h; rw [h] at h2; simp at h2
  have h3' : fn.name ≠ "runtime.NumGoroutine" := by simpa using h3
  simp [callFunc, h1, h2', h3']

theorem step_leave {fr c : Frame} {cs : List Frame} {v : Value} (h : fr.leaving P w (.returned v)) : step P (lone fr (c :: cs) w) = .next (lone (c.finish v) cs w) := step_leave_returned h

/-- THE THEOREM OF CALLS: from the point where the call's run is known. -/
theorem call_sound (hs : Sim P j H w) {f f' : Value} {args : List Value} {args' : Array Value} {K : Value → Heap → Prop} (hf : VRel j f f') (ha : VsRel j args args'.toList) (h : callWp (Conc P) f args H K)
    (caller : Frame) (cs : List Frame) (m : Machine)
    (enter : ∀ g first captured fn, f' = .func (.func g) first captured → P.funcs[g]? = some fn → fn.body.isSome = true → (fn.name == "runtime.NumGoroutine") = false → step P m = .next (lone (Frame.enter P g ((first ++ args') ++ captured) .normal) (caller :: cs) w))
    (round : ∀ l r', f' = .func (.yield l) #[] #[] → w.heap[l]? = some (.loop r') → args'.size = r'.params.size → step P m = .next (lone (Frame.round l r'.fn ((r'.params.zip args').foldl (fun tmps (t, a) => tmps.setIfInBounds t a) r'.tmps) r'.assign r'.body .normal) (caller :: cs) w)) :
    ∃ v H' j' v' w', K v H' ∧ VRel j' v v' ∧ Sim P j' H' w' ∧ Step j H w j' H' w' ∧ Steps P m (lone (caller.finish v') cs w') := by
  unfold callWp at h
  split at h
  · rename_i t args1 ht
    unfold target at ht
    split at ht
    · rename_i g first captured
      simp only [Option.some.injEq, Prod.mk.injEq] at ht
      obtain ⟨rfl, rfl⟩ := ht
      obtain ⟨⟨fn, h1, h2, h3⟩, h4⟩ := h
      obtain ⟨first', captured', rfl, hf1, hf2⟩ : ∃ a' c', f' = .func (.func g) a' c' ∧ VsRel j first.toList a'.toList ∧ VsRel j captured.toList c'.toList := by
        cases hf with
        | func _ h1 h2 => exact ⟨_, _, rfl, h1, h2⟩
      obtain ⟨v, H', j', cv, w', fr, k1, k2, k3, k4, k5, k6, k7⟩ := h4 j w ((first' ++ args') ++ captured') hs (by
        simp only [Array.toList_append]
        exact (hf1.append ha).append hf2) (caller :: cs)
      refine ⟨v, H', j', cv, w', k1, k2, k3, k4, ?_⟩
      exact Steps.head (enter g first' captured' fn rfl h1 h2 h3) (Steps.trans k5 (Steps.one (step_leave k7)))
    · rename_i l a c
      simp only [Option.some.injEq, Prod.mk.injEq] at ht
      obtain ⟨rfl, rfl⟩ := ht
      obtain ⟨s, hj, rfl⟩ : ∃ s, j l = some s ∧ f' = .func (.yield s.blk) #[] #[] := by
        cases hf with
        | yield hj => exact ⟨_, hj, rfl⟩
      obtain ⟨r', h1, h2, h3⟩ := h j w args' s hs ha hj
      obtain ⟨v, H', j', cv, w', k1, k2, k3, k4, k5⟩ := h3 caller cs
      exact ⟨v, H', j', cv, w', k1, k2, k3, k4, Steps.head (round s.blk r' rfl h1 h2) k5⟩
    · simp at ht
  · exact h.elim

end
end Ab
