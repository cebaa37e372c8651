/- Regions: one operation, and the operations in the order of the text. -/
import Derived.Test.YtfcpgeanbklleaaGreatDoorAct
set_option linter.unusedSectionVars false
set_option linter.unusedSimpArgs false
set_option linter.unusedVariables false
namespace Ab
open Go

section
variable {P : Program}

theorem cOp_call {o : Oper} {f : Operand} {args : List Operand} (hc : cOp P o.op o.type = some (.call f args)) : ∃ c, o.op = .call c ∧ c.callee = .value f ∧ c.args.toList = args := by
  obtain ⟨dst, op, type, pos, after, guard⟩ := o
  simp only at hc ⊢
  cases op with
  | call c =>
    obtain ⟨callee, cargs, argTypes⟩ := c
    simp only [cOp] at hc
    split at hc
    · simp only [Option.some.injEq, AOp.call.injEq] at hc
      obtain ⟨rfl, rfl⟩ := hc
      exact ⟨_, rfl, rfl, rfl⟩
    · simp at hc
    · (repeat' split at hc) <;> simp at hc
  | lookup t m k ok => simp only [cOp] at hc; (repeat' split at hc) <;> simp at hc
  | mapUpdate t m k x => simp only [cOp] at hc; (repeat' split at hc) <;> simp at hc
  | insert t m k x => simp only [cOp] at hc; (repeat' split at hc) <;> simp at hc
  | build t ps => simp only [cOp] at hc; (repeat' split at hc) <;> simp at hc
  | buildSlice t n ps => simp only [cOp] at hc; (repeat' split at hc) <;> simp at hc
  | makeSlice t l c => simp only [cOp] at hc; (repeat' split at hc) <;> simp at hc
  | binOp op t x y yt => simp only [cOp] at hc; (repeat' split at hc) <;> simp at hc
  | convert s d x => simp only [cOp] at hc; split at hc <;> simp at hc
  | makeFunc fn f c => cases fn <;> simp [cOp] at hc
  | makeMap t r => cases r <;> simp only [cOp, reduceCtorEq] at hc; split at hc <;> simp at hc
  | range t x => simp only [cOp] at hc; split at hc <;> simp at hc
  | next x s => cases s <;> simp [cOp] at hc
  | slice t x lo hi mx => simp only [cOp] at hc; (repeat' split at hc) <;> simp at hc
  | fieldAddr s x f =>
    simp only [cOp] at hc
    split at hc
    · simp only [Option.bind_eq_some_iff] at hc
      obtain ⟨fd, _, i, _, hc⟩ := hc
      split at hc <;> simp at hc
    · simp at hc
  | field s x f =>
    simp only [cOp] at hc
    split at hc
    · simp only [Option.bind_eq_some_iff] at hc
      obtain ⟨fd, _, hc⟩ := hc
      split at hc <;> simp at hc
    · simp at hc
  | indexAddr t x i => simp only [cOp] at hc; split at hc <;> simp at hc
  | index t x i => simp only [cOp] at hc; (repeat' split at hc) <;> simp at hc
  | makeInterface t x => simp only [cOp] at hc; split at hc <;> simp at hc
  | _ => simp [cOp] at hc

theorem cOp_next {o : Oper} {it : Operand} (hc : cOp P o.op o.type = some (.next it)) : o.op = .next it false := by
  obtain ⟨dst, op, type, pos, after, guard⟩ := o
  simp only at hc ⊢
  cases op with
  | next x s =>
    cases s <;> simp only [cOp, Option.some.injEq, reduceCtorEq, AOp.next.injEq] at hc
    rw [hc]
  | call c =>
    obtain ⟨callee, cargs, argTypes⟩ := c
    simp only [cOp] at hc
    (repeat' split at hc) <;> simp at hc
  | lookup t m k ok => simp only [cOp] at hc; (repeat' split at hc) <;> simp at hc
  | mapUpdate t m k x => simp only [cOp] at hc; (repeat' split at hc) <;> simp at hc
  | insert t m k x => simp only [cOp] at hc; (repeat' split at hc) <;> simp at hc
  | build t ps => simp only [cOp] at hc; (repeat' split at hc) <;> simp at hc
  | buildSlice t n ps => simp only [cOp] at hc; (repeat' split at hc) <;> simp at hc
  | makeSlice t l c => simp only [cOp] at hc; (repeat' split at hc) <;> simp at hc
  | binOp op t x y yt => simp only [cOp] at hc; (repeat' split at hc) <;> simp at hc
  | convert s d x => simp only [cOp] at hc; split at hc <;> simp at hc
  | makeFunc fn f c => cases fn <;> simp [cOp] at hc
  | makeMap t r => cases r <;> simp only [cOp, reduceCtorEq] at hc; split at hc <;> simp at hc
  | range t x => simp only [cOp] at hc; split at hc <;> simp at hc
  | slice t x lo hi mx => simp only [cOp] at hc; (repeat' split at hc) <;> simp at hc
  | fieldAddr s x f =>
    simp only [cOp] at hc
    split at hc
    · simp only [Option.bind_eq_some_iff] at hc
      obtain ⟨fd, _, i, _, hc⟩ := hc
      split at hc <;> simp at hc
    · simp at hc
  | field s x f =>
    simp only [cOp] at hc
    split at hc
    · simp only [Option.bind_eq_some_iff] at hc
      obtain ⟨fd, _, hc⟩ := hc
      split at hc <;> simp at hc
    · simp at hc
  | indexAddr t x i => simp only [cOp] at hc; split at hc <;> simp at hc
  | index t x i => simp only [cOp] at hc; (repeat' split at hc) <;> simp at hc
  | makeInterface t x => simp only [cOp] at hc; split at hc <;> simp at hc
  | _ => simp [cOp] at hc

theorem cOp_defer {o : Oper} {a : AOp} (hc : cOp P o.op o.type = some a) : ∀ c, o.op ≠ .defer c := by
  intro c h
  rw [h] at hc
  simp [cOp] at hc

variable {j : Inj} {w : World} {H : Heap} {T : List Value} {C : Array Value} {b : FB} {k : List Item} {ds : List Deferred} {cs : List Frame}

theorem newOp_push (hs : Sim P j H w) {ρ ρ' : Operand → Value} {a : AOp} (hr : OpRel j ρ ρ' a) (x : Blk) : newOp ρ (H.push x) a = newOp ρ H a := by
  cases a <;> first | rfl | skip
  rename_i m
  have hm := hr m (by simp [AOp.operands])
  simp only [newOp]
  generalize ρ m = v at hm
  generalize ρ' m = v' at hm
  cases hm <;> first | rfl | skip
  rename_i r s hj
  have := (hs.dom _ _ hj).1
  simp only [Heap.get_push]
  rw [if_neg (by omega)]

/-- ONE OPERATION, CARRIED OUT. -/
theorem act_sound (hs : Sim P j H w) {ρ : Operand → Value} {ops : Array Oper} {i : Nat} {rest : List Nat} {o : Oper} {a : AOp} {K : Value → Heap → Prop} (ho : ops[i]? = some o) (hw : Region.wanted o (yielded ops C) = true)
    (hc : cOp P o.op o.type = some a) (hr : OpRel j ρ (cev C) a) (h : actWp (Conc P) a ρ H K) :
    ∃ v H' j' v' w', K v H' ∧ VRel j' v v' ∧ Sim P j' H' w' ∧ Step j H w j' H' w' ∧
      Steps P (lone (mk b C (.inRegion ops (i :: rest) :: k) ds) cs w) (lone (mk b (cput o.dst v' C) (.inRegion ops rest :: k) ds) cs w') := by
  have hd := cOp_defer hc
  unfold actWp at h
  split at h
  · -- pure
    cases hp : pureOp ρ a with
    | none => rw [hp] at h; exact h.elim
    | some v =>
      rw [hp] at h
      obtain ⟨v', h1, h2⟩ := pure_sound (w := w) hc hp hr
      exact ⟨v, H, j, v', w, h, h2, hs, Step.refl _ _ _, Steps.one (st_value ho hw hd h1)⟩
  · rename_i hcl
    cases hp : readOp ρ H a with
    | none => rw [hp] at h; exact h.elim
    | some v =>
      rw [hp] at h
      obtain ⟨v', h1, h2⟩ := read_sound hs hc hcl hp hr
      exact ⟨v, H, j, v', w, h, h2, hs, Step.refl _ _ _, Steps.one (st_value ho hw hd h1)⟩
  · rename_i hcl
    split at h
    · rename_i x f hn
      have hs1 := hs.push x
      have hn1 := (newOp_push hs hr x).trans hn
      obtain ⟨v', w', j', h1, h2, h3, h4⟩ := new_sound hs1 hc hcl hn1 hr (id := H.size) hs.fresh (by simp [Heap.push]) (by simp [Heap.push])
      exact ⟨f H.size, H.push x, j', v', w', h, h3, h2, Step.of_lays hs h4, Steps.one (st_value ho hw hd h1)⟩
    · exact h.elim
  · rename_i hcl
    cases hp : writeOp ρ H a with
    | none => rw [hp] at h; exact h.elim
    | some p =>
      obtain ⟨v, H'⟩ := p
      rw [hp] at h
      obtain ⟨v', w', j', h1, h2, h3, h4⟩ := write_sound hs hc hcl hp hr
      rcases h1 with h1 | ⟨rfl, h1⟩
      · exact ⟨v, H', j', v', w', h, h2, h3, h4, Steps.one (st_value ho hw hd h1)⟩
      · exact ⟨v, H', j', undef, w', h, h2, h3, h4, Steps.one (st_none ho hw hd h1)⟩
  · split at h
    · rename_i it hcl
      have hop := cOp_next hc
      obtain ⟨v, H', v', w', h1, h2, h3, h4, h5⟩ := next_sound hs (ty := o.type) (hr it (by simp [AOp.operands])) h
      refine ⟨v, H', j, v', w', h1, h3, h4, h5, Steps.one (st_value ho hw hd ?_)⟩
      exact exec_value (s := Instr.next (cev C it) false o.type) (by unfold execOp; rw [hop]) h2
    · exact h.elim
  · split at h
    · rename_i f args hcl
      obtain ⟨c, hop, hcal, hargs⟩ := cOp_call hc
      have hexec : execOp (cev C) o = (do let d ← resolve (cev C) c o.type; invoke d.target d.args) := by unfold execOp; rw [hop]
      have hargs' : VsRel j (args.map ρ) (c.args.map (cev C)).toList := by
        rw [Array.toList_map, hargs]
        exact VsRel.map_ρ fun x hx => hr x (by simp [AOp.operands, hx])
      have hf := hr f (by simp [AOp.operands])
      obtain ⟨v, H', j', v', w', h1, h2, h3, h4, h5⟩ := call_sound hs hf hargs' h (mk b C (.inRegion ops (i :: rest) :: k) ds) cs (lone (mk b C (.inRegion ops (i :: rest) :: k) ds) cs w)
        (by
          intro g first captured fn e1 e2 e3 e4
          refine st_enter ho hw hd ?_
          rw [hexec, resolve_func hcal e1]
          exact run_callFunc e2 e3 e4)
        (by
          intro l r' e1 e2 e3
          refine st_round ho hw hd ?_
          rw [hexec, resolve_yield hcal e1]
          have hg : (getObj l).run P w = .ok (.loop r') w := by simp [getObj, Sem.run, e2]
          have he : (#[] : Array Value) ++ c.args.map (cev C) = c.args.map (cev C) := by simp
          rw [he]
          unfold Instr.yield Instr.getLoop
          simp [hg, e3])
      refine ⟨v, H', j', v', w', h1, h2, h3, h4, ?_⟩
      have hfin := finish_mk (b := b) (C := C) (k := k) (ds := ds) (ops := ops) (i := i) (rest := rest) (v := v')
      rw [ho] at hfin
      rw [hfin] at h5
      exact h5
    · exact h.elim

theorem cOper_some {n : Nat} {ops : Array Oper} {i : Nat} {ao : AOper} (h : cOper P n ops i = some ao) :
    ∃ o, ops[i]? = some o ∧ cOp P o.op o.type = some ao.op ∧ cGuard ops o.guard = some ao.guard ∧ ao.op.operands.all (okOperand P.globals.size) = true ∧ ao.dst = o.dst ∧ ao.idx = i ∧ ao.pend = [] ∧ ∀ t, ao.dst = some t → t < n := by
  unfold cOper at h
  split at h
  · simp at h
  · rename_i o ho
    split at h
    · rename_i a g ha hg
      split at h
      · rename_i hall
        simp only [Option.some.injEq] at h
        subst h
        refine ⟨o, ho, ha, hg, hall.1, rfl, rfl, rfl, ?_⟩
        intro t ht
        simp only at ht
        simpa [ht] using hall.2
      · simp at h
    · simp at h

theorem cput_size {d : Option Tmp} {v : Value} {C : Array Value} : (cput d v C).size = C.size := by cases d <;> simp [cput]

/-- THE OPERATIONS OF A REGION IN THE ORDER OF THE TEXT. -/
theorem ops_sound {n : Nat} {ops : Array Oper} : ∀ {l : List AOper} {is : List Nat} {j : Inj} {w : World} {H : Heap} {T : List Value} {C : Array Value} {K : List Value → Heap → Prop}, cOpers P n ops is = some l →
    opsWp (Conc P) l T H K → Sim P j H w → VsRel j T C.toList →
    ∃ T' H' j' C' w', K T' H' ∧ Sim P j' H' w' ∧ VsRel j' T' C'.toList ∧ C'.size = C.size ∧ Step j H w j' H' w' ∧ Steps P (lone (mk b C (.inRegion ops is :: k) ds) cs w) (lone (mk b C' k ds) cs w')
  | l, [], j, w, H, T, C, K, hc, h, hs, hT => by
    simp only [cOpers, Option.some.injEq] at hc
    subst hc
    exact ⟨T, H, j, C, w, h, hs, hT, rfl, Step.refl _ _ _, Steps.one st_region_end⟩
  | l, i :: is, j, w, H, T, C, K, hc, h, hs, hT => by
    simp only [cOpers] at hc
    split at hc
    · rename_i ao l' hao hl'
      simp only [Option.some.injEq] at hc
      subst hc
      obtain ⟨o, ho, hcop, hcg, hall, hdst, hidx, hpend, _⟩ := cOper_some hao
      have hwant := want_rel hT hcg
      unfold opsWp at h
      split at h
      · rename_i hw
        obtain ⟨v, H1, j1, v', w1, hK, hv, hs1, hst, hsteps⟩ := act_sound (b := b) (k := k) (ds := ds) (cs := cs) (rest := is) hs ho (hwant.trans hw) hcop (opRel hs hT hall) h
        rw [hdst] at hK
        obtain ⟨T', H', j', C', w', k1, k2, k3, k6, k4, k5⟩ := ops_sound hl' hK.2 hs1 (cput_rel (hT.mono hst.sub) hv)
        exact ⟨T', H', j', C', w', k1, k2, k3, k6.trans cput_size, hst.trans k4, hsteps.trans k5⟩
      · rename_i hw
        rw [hdst] at h
        have hstep := st_op_skip (P := P) (b := b) (C := C) (k := k) (ds := ds) (cs := cs) (w := w) (ops := ops) (i := i) (rest := is) (by rw [ho]; simp only [Option.map_some, Option.getD_some]; rw [hwant]; simpa using hw)
        rw [ho] at hstep
        obtain ⟨T', H', j', C', w', k1, k2, k3, k6, k4, k5⟩ := ops_sound hl' h hs (cput_rel hT (VRel.undef j))
        exact ⟨T', H', j', C', w', k1, k2, k3, k6.trans cput_size, k4, Steps.head hstep k5⟩
    · simp at hc

end
end Ab
