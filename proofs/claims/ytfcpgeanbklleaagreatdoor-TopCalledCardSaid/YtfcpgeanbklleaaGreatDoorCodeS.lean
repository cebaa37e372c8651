/- Code, in the machine: structured statements, loops, ranges over functions. -/
import Derived.Test.YtfcpgeanbklleaaGreatDoorDraw
import Derived.RangeFuncLeaves
set_option linter.unusedSectionVars false
set_option linter.unusedSimpArgs false
set_option linter.unusedVariables false
namespace Ab
open Go

section
variable {P : Program} {n : Nat} {j : Inj} {H : Heap} {w : World} {T : List Value} {C : Array Value}

/-- Marks among the deferred calls: their blocks are empty, new, and have no part in the heap. -/
structure DefOK (n0 : Nat) (j : Inj) (w : World) (ds : List Deferred) (rs : List Nat) : Prop where
  eq : ds = rs.map fun r => { target := .collected r, args := #[] }
  nodup : rs.Nodup
  ok : ∀ r ∈ rs, n0 ≤ r ∧ w.heap[r]? = some (.deferred (some [])) ∧ ∀ b s, j b = some s → s.blk ≠ r

theorem DefOK.step {n0 : Nat} {ds : List Deferred} {rs : List Nat} {j' : Inj} {H' : Heap} {w' : World} (h : DefOK n0 j w ds rs) (hs : Step j H w j' H' w') : DefOK n0 j' w' ds rs where
  eq := h.eq
  nodup := h.nodup
  ok r hr := by
    obtain ⟨h1, h2, h3⟩ := h.ok r hr
    have hlt : r < w.heap.size := (Array.getElem?_eq_some_iff.1 h2).1
    refine ⟨h1, (hs.keep.same r hlt fun b s x hb _ _ => h3 b s hb).trans h2, fun b s hb => ?_⟩
    rcases hs.img b s hb with h4 | ⟨b0, s0, h4, h5⟩
    · omega
    · rw [← h5]; exact h3 b0 s0 h4

def RdRel (j : Inj) : Option Nat → Option Nat → Prop
  | none, none => True
  | some l, some l' => ∃ s, j l = some s ∧ l' = s.blk
  | _, _ => False

theorem RdRel.mono {j j' : Inj} (h : j.le j') : ∀ {a b}, RdRel j a b → RdRel j' a b
  | none, none, _ => trivial
  | some _, some _, ⟨s, h1, h2⟩ => ⟨s, h _ _ h1, h2⟩

/-- Where the run of a code ends. -/
def Arrive (P : Program) (b : FB) (k : List Item) (cs : List Frame) (m : Machine) (C' : Array Value) (ds' : List Deferred) (w' : World) : Ex → Prop
  | .normal => Steps P m (lone (Ab.mk b C' k ds') cs w')
  | .jump (.exit id) => ∃ k', exitTo id k' = exitTo id k ∧ Steps P m (lone (Ab.mk b C' (.code (.exit id) :: k') ds') cs w')
  | .jump .ret => ∃ k', Steps P m (lone (Ab.mk b C' (.code .ret :: k') ds') cs w')

def Runs (P : Program) (n n0 : Nat) (b : FB) (k : List Item) (cs : List Frame) (Q : Post) (j : Inj) (H : Heap) (w : World) (m : Machine) : Prop :=
  ∃ e T' H' j' C' ds' rs' w', Q e T' H' ∧ Sim P j' H' w' ∧ VsRel j' T' C'.toList ∧ C'.size = n ∧ Step j H w j' H' w' ∧ DefOK n0 j' w' ds' rs' ∧ Arrive P b k cs m C' ds' w' e

theorem Arrive.head {b : FB} {k : List Item} {cs : List Frame} {m m' : Machine} {C' : Array Value} {ds' : List Deferred} {w' : World} {e : Ex} (h : Steps P m m') (ha : Arrive P b k cs m' C' ds' w' e) : Arrive P b k cs m C' ds' w' e := by
  cases e with
  | normal => exact h.trans ha
  | jump jp =>
    cases jp with
    | exit id => obtain ⟨k', h1, h2⟩ := ha; exact ⟨k', h1, h.trans h2⟩
    | ret => obtain ⟨k', h2⟩ := ha; exact ⟨k', h.trans h2⟩

theorem Runs.head {n0 : Nat} {b : FB} {k : List Item} {cs : List Frame} {Q : Post} {m m' : Machine} (h : Steps P m m') (hr : Runs P n n0 b k cs Q j H w m') : Runs P n n0 b k cs Q j H w m := by
  obtain ⟨e, T', H', j', C', ds', rs', w', h1, h2, h3, h4, h5, h6, h7⟩ := hr
  exact ⟨e, T', H', j', C', ds', rs', w', h1, h2, h3, h4, h5, h6, h7.head h⟩

theorem Runs.back {n0 : Nat} {b : FB} {k : List Item} {cs : List Frame} {Q : Post} {m : Machine} {j0 : Inj} {H0 : Heap} {w0 : World} (h : Step j0 H0 w0 j H w) (hr : Runs P n n0 b k cs Q j H w m) : Runs P n n0 b k cs Q j0 H0 w0 m := by
  obtain ⟨e, T', H', j', C', ds', rs', w', h1, h2, h3, h4, h5, h6, h7⟩ := hr
  exact ⟨e, T', H', j', C', ds', rs', w', h1, h2, h3, h4, h.trans h5, h6, h7⟩

/-- On with what stands behind. -/
theorem Runs.then {n0 : Nat} {b : FB} {it : Item} {k : List Item} {cs : List Frame} {K : List Value → Heap → Prop} {Q : Post} {m : Machine} (hit : ∀ id, exitTo id (it :: k) = exitTo id k)
    (hr : Runs P n n0 b (it :: k) cs (thenP K Q) j H w m)
    (next : ∀ T' H' j' C' ds' rs' w', K T' H' → Sim P j' H' w' → VsRel j' T' C'.toList → C'.size = n → Step j H w j' H' w' → DefOK n0 j' w' ds' rs' → Runs P n n0 b k cs Q j' H' w' (lone (Ab.mk b C' (it :: k) ds') cs w')) :
    Runs P n n0 b k cs Q j H w m := by
  obtain ⟨e, T', H', j', C', ds', rs', w', h1, h2, h3, h4, h5, h6, h7⟩ := hr
  cases e with
  | normal => exact ((next T' H' j' C' ds' rs' w' h1 h2 h3 h4 h5 h6).back h5).head h7
  | jump jp =>
    refine ⟨.jump jp, T', H', j', C', ds', rs', w', h1, h2, h3, h4, h5, h6, ?_⟩
    cases jp with
    | exit id => obtain ⟨k', h8, h9⟩ := h7; exact ⟨k', h8.trans (hit id), h9⟩
    | ret => exact h7

theorem Sim.off (hs : Sim P j H w) {r : Nat} {w' : World} (hr : ∀ b s, j b = some s → s.blk ≠ r) (hsz : w.heap.size ≤ w'.heap.size) (hsame : ∀ r', r' < w.heap.size → r' ≠ r → w'.heap[r']? = w.heap[r']?) : Sim P j H w' where
  wf := hs.wf
  glob := hs.glob
  dom b s h := ⟨(hs.dom b s h).1, Nat.lt_of_lt_of_le (hs.dom b s h).2 hsz⟩
  inj := hs.inj
  blk b s x h1 h2 := by
    rw [hsame s.blk (hs.dom b s h1).2 (hr b s h1)]
    exact hs.blk b s x h1 h2

theorem Step.grow (j : Inj) (H : Heap) {w w' : World} (hsz : w.heap.size ≤ w'.heap.size) (hsame : ∀ r', r' < w.heap.size → w'.heap[r']? = w.heap[r']?) (ht : w'.tape = w.tape) (ho : w'.os = w.os) (hout : w'.output = w.output) : Step j H w j H w' :=
  ⟨.refl j, fun _ _ h => .inl h, fun b s x h1 h2 h3 => .inr ⟨b, s, x, h1, h2, h3, rfl⟩, fun b s h => .inr ⟨b, s, h, rfl⟩, Nat.le_refl _, ⟨hsz, ht, ho, hout, fun r hr _ => hsame r hr⟩⟩

variable {b : FB} {k : List Item} {ds : List Deferred} {cs : List Frame}

theorem st_range_enter {f : Operand} {ps : Array Tmp} {assign body : Code} {l : Nat} {mark : List Deferred} {w1 w1' w2 : World} {d : Deferred} {g : FuncId} {args : Array Value}
    (he : (Instr.enterLoop b.fn C ps assign body b.rd).run P w = .ok (l, mark) w1) (hres : (resolve (cev C) (rangeCall f l) 0).run P w1 = .ok d w1') (hinv : (invoke d.target d.args).run P w1' = .ok (.enter g args) w2) :
    step P (lone (Ab.mk b C (.code (.rangeFunc f ps assign body) :: k) ds) cs w) = .next (lone (Frame.enter P g args .normal) (Ab.mk b C (.inRangeFunc l :: k) (mark ++ ds) :: cs) w2) :=
  step_lone_go (by
    have hev := eval_mk (b := b) (C := C) (k := .inRangeFunc l :: k) (ds := mark ++ ds)
    simp only [Ab.mk] at hev
    have hres' : Sem.run P (resolve (cev C) { callee := .value f, args := #[.const (.func (.yield l) #[] #[])], argTypes := #[] } 0) w1 = .ok d w1' := hres
    simp [stepG, stepG.exec, Ab.mk, Sem.runT_eq, he, GStep.bare_after, stepG.apply, hev, Sem.run_bind, hres', hinv, Result.andThen])

theorem st_range_round {f : Operand} {ps : Array Tmp} {assign body : Code} {l : Nat} {mark : List Deferred} {w1 w1' w2 : World} {d : Deferred} {l2 : Nat} {g : FuncId} {tm : Array Value} {as bo : Code}
    (he : (Instr.enterLoop b.fn C ps assign body b.rd).run P w = .ok (l, mark) w1) (hres : (resolve (cev C) (rangeCall f l) 0).run P w1 = .ok d w1') (hinv : (invoke d.target d.args).run P w1' = .ok (.round l2 g tm as bo) w2) :
    step P (lone (Ab.mk b C (.code (.rangeFunc f ps assign body) :: k) ds) cs w) = .next (lone (Frame.round l2 g tm as bo .normal) (Ab.mk b C (.inRangeFunc l :: k) (mark ++ ds) :: cs) w2) :=
  step_lone_go (by
    have hev := eval_mk (b := b) (C := C) (k := .inRangeFunc l :: k) (ds := mark ++ ds)
    simp only [Ab.mk] at hev
    have hres' : Sem.run P (resolve (cev C) { callee := .value f, args := #[.const (.func (.yield l) #[] #[])], argTypes := #[] } 0) w1 = .ok d w1' := hres
    simp [stepG, stepG.exec, Ab.mk, Sem.runT_eq, he, GStep.bare_after, stepG.apply, hev, Sem.run_bind, hres', hinv, Result.andThen])

theorem st_endRange {l : Nat} {jump : Option Code} {w' : World} (h : (Instr.endLoop l).run P w = .ok jump w') :
    step P (lone (Ab.mk b C (.endRangeFunc l :: k) ds) cs w) = .next (lone (Ab.mk b C ((jump.map Item.code).toList ++ k) ds) cs w') :=
  step_lone_go (by simp [stepG, stepG.exec, Ab.mk, Sem.runT_eq, h, GStep.bare_after])

theorem run_getObj {r : Nat} {o : Loop} (h : w.heap[r]? = some (.loop o)) : (getObj r).run P w = .ok (.loop o) w := by simp [getObj, Sem.run, h]

theorem run_setObj {r : Nat} {o : Loop} {o' : Obj} (h : w.heap[r]? = some (.loop o)) : (setObj r o').run P w = .ok () { w with heap := w.heap.setIfInBounds r o' } := by simp [setObj, Sem.run, h]

theorem cev_const {v : Value} : cev C (.const v) = v := rfl

/-- A LOOP RECORD ENTERED. -/
theorem enter_sound (hs : Sim P j H w) {cx : Ctx} (hfn : cx.fn = b.fn) (hrd : RdRel j cx.rd b.rd) (hro : roundOk cx H) (hT : VsRel j T C.toList) {n0 : Nat} (hn0 : n0 ≤ w.heap.size) {rs : List Nat} (hds : DefOK n0 j w ds rs)
    {ps : Array Tmp} {assign body : Code} {aa ab : ACode} (ha : cCode P T.length assign = some aa) (hb : cCode P T.length body = some ab) :
    ∃ l mark w1 j1 s rs1, (Instr.enterLoop b.fn C ps assign body b.rd).run P w = .ok (l, mark) w1 ∧ s.blk = l ∧ j1 H.size = some s ∧
      Sim P j1 (H.push (.loop { state := .ready, pending := none, fn := cx.fn, tmps := T, params := ps.toList, assign := aa, body := ab })) w1 ∧
      Step j H w j1 (H.push (.loop { state := .ready, pending := none, fn := cx.fn, tmps := T, params := ps.toList, assign := aa, body := ab })) w1 ∧ DefOK n0 j1 w1 (mark ++ ds) rs1 := by
  cases hr : b.rd with
  | none =>
    obtain ⟨w0, hw0⟩ : ∃ w0 : World, w0 = { w with heap := w.heap.push (.deferred (some [])) } := ⟨_, rfl⟩
    have hsame0 : ∀ r', r' < w.heap.size → w0.heap[r']? = w.heap[r']? := by
      intro r' h; rw [hw0]; exact heap_push_old h
    have hsz0 : w0.heap.size = w.heap.size + 1 := by rw [hw0]; simp
    have hs0 : Sim P j H w0 := hs.off (r := w.heap.size) (fun b s h => by have := (hs.dom b s h).2; omega) (by omega) (fun r' h _ => hsame0 r' h)
    have hst0 : Step j H w j H w0 := Step.grow j H (by omega) hsame0 (by rw [hw0]) (by rw [hw0]) (by rw [hw0])
    have hfr := hs0.fresh
    have hlay := hs0.layNew (x := .loop { state := .ready, pending := none, fn := cx.fn, tmps := T, params := ps.toList, assign := aa, body := ab }) (s := ⟨w0.heap.size, 0, 0, 0⟩)
      (o := .loop { state := .ready, pending := none, fn := b.fn, tmps := C, params := ps, assign, body, defers := w.heap.size }) rfl w0.drawn ⟨rfl, _, rfl, ⟨rfl, rfl, hfn.symm, hT.mono (Inj.upd_le hfr), rfl, ha, hb⟩⟩
    refine ⟨w0.heap.size, [{ target := .collected w.heap.size, args := #[] }], _, _, ⟨w0.heap.size, 0, 0, 0⟩, w.heap.size :: rs, ?_, rfl, Inj.upd_self, hlay.1, hst0.trans hlay.2, ?_⟩
    · rw [hw0]
      simp [Instr.enterLoop, newObj, Sem.run_bind, Sem.run, Result.andThen]
      exact ⟨rfl, rfl, rfl⟩
    · have h1 := (hds.step (hst0.trans hlay.2))
      refine ⟨by simp [hds.eq], ?_, ?_⟩
      · refine List.nodup_cons.2 ⟨fun hm => ?_, hds.nodup⟩
        have := (Array.getElem?_eq_some_iff.1 (hds.ok _ hm).2.1).1
        omega
      · intro r hr
        rcases List.mem_cons.1 hr with rfl | hr
        · refine ⟨hn0, ?_, fun b s hb => ?_⟩
          · change (w0.heap.push _)[w.heap.size]? = _
            rw [heap_push_old (by omega), hw0]
            simp
          · rcases Inj.upd_inv hb with ⟨_, rfl⟩ | ⟨_, h⟩
            · simp only; omega
            · have := (hs.dom b s h).2; omega
        · exact h1.ok r hr
  | some l0 =>
    rw [hr] at hrd
    cases hcr : cx.rd with
    | none => rw [hcr] at hrd; exact hrd.elim
    | some al =>
      rw [hcr] at hrd
      obtain ⟨s0, hj0, rfl⟩ := hrd
      simp only [roundOk, hcr] at hro
      split at hro
      · rename_i r0 hg0
        obtain ⟨_, r', ho, _⟩ := hs.blk _ _ _ hj0 hg0
        have hfr := hs.fresh
        have hlay := hs.layNew (x := .loop { state := .ready, pending := none, fn := cx.fn, tmps := T, params := ps.toList, assign := aa, body := ab }) (s := ⟨w.heap.size, 0, 0, 0⟩)
          (o := .loop { state := .ready, pending := none, fn := b.fn, tmps := C, params := ps, assign, body, defers := r'.defers }) rfl w.drawn ⟨rfl, _, rfl, ⟨rfl, rfl, hfn.symm, hT.mono (Inj.upd_le hfr), rfl, ha, hb⟩⟩
        refine ⟨w.heap.size, [], _, _, ⟨w.heap.size, 0, 0, 0⟩, rs, ?_, rfl, Inj.upd_self, hlay.1, hlay.2, hds.step hlay.2⟩
        have hgo := run_getObj (P := P) ho
        simp [Instr.enterLoop, Instr.getLoop, hgo, newObj, Sem.run_bind, Sem.run, Result.andThen]
      · exact hro.elim

/-- THE STATEMENTS. -/
theorem code_sound (hmix : P.follows .mixedOrders = true) {cx : Ctx} {cs : List Frame} {n0 : Nat} : ∀ (c : Code) {ac : ACode} {b : FB} {k : List Item} {ds : List Deferred} {rs : List Nat} {j : Inj} {H : Heap} {w : World} {T : List Value} {C : Array Value} {Q : Post}, cCode P n c = some ac → wp (Conc P) cx ac T H Q →
    cx.fn = b.fn → RdRel j cx.rd b.rd → Sim P j H w → VsRel j T C.toList → C.size = n → n0 ≤ w.heap.size → DefOK n0 j w ds rs →
    Runs P n n0 b k cs Q j H w (lone (Ab.mk b C (.code c :: k) ds) cs w)
  | .skip, ac, b, k, ds, rs, j, H, w, T, C, Q, hc, h, hfn, hrd, hs, hT, hn, hn0, hds => by
    simp only [cCode, Option.some.injEq] at hc; subst hc
    exact ⟨.normal, T, H, j, C, ds, rs, w, h, hs, hT, hn, Step.refl _ _ _, hds, Steps.one st_skip⟩
  | .label l, ac, b, k, ds, rs, j, H, w, T, C, Q, hc, h, hfn, hrd, hs, hT, hn, hn0, hds => by
    simp only [cCode, Option.some.injEq] at hc; subst hc
    exact ⟨.normal, T, H, j, C, ds, rs, w, h, hs, hT, hn, Step.refl _ _ _, hds, Steps.one st_label⟩
  | .exit id, ac, b, k, ds, rs, j, H, w, T, C, Q, hc, h, hfn, hrd, hs, hT, hn, hn0, hds => by
    simp only [cCode, Option.some.injEq] at hc; subst hc
    exact ⟨.jump (.exit id), T, H, j, C, ds, rs, w, h, hs, hT, hn, Step.refl _ _ _, hds, k, rfl, Steps.refl _ _⟩
  | .ret, ac, b, k, ds, rs, j, H, w, T, C, Q, hc, h, hfn, hrd, hs, hT, hn, hn0, hds => by
    simp only [cCode, Option.some.injEq] at hc; subst hc
    exact ⟨.jump .ret, T, H, j, C, ds, rs, w, h, hs, hT, hn, Step.refl _ _ _, hds, k, Steps.refl _ _⟩
  | .goto l, ac, b, k, ds, rs, j, H, w, T, C, Q, hc, h, hfn, hrd, hs, hT, hn, hn0, hds => by simp [cCode] at hc
  | .refuse l, ac, b, k, ds, rs, j, H, w, T, C, Q, hc, h, hfn, hrd, hs, hT, hn, hn0, hds => by simp [cCode] at hc
  | .region id ops draw, ac, b, k, ds, rs, j, H, w, T, C, Q, hc, h, hfn, hrd, hs, hT, hn, hn0, hds => by
    cases draw with
    | false =>
      simp only [cCode, Bool.false_eq_true, if_false, Option.map_eq_some_iff] at hc
      obtain ⟨l, hl, rfl⟩ := hc
      obtain ⟨T', H', j', C', w', k1, k2, k3, k6, k4, k5⟩ := ops_sound (b := b) (k := k) (ds := ds) (cs := cs) hl h hs hT
      exact ⟨.normal, T', H', j', C', ds, rs, w', k1, k2, k3, k6.trans hn, k4, hds.step k4, Steps.head st_region k5⟩
    | true =>
      simp only [cCode, if_true, Option.map_eq_some_iff] at hc
      obtain ⟨l, hl, rfl⟩ := hc
      obtain ⟨T', H', j', C', w', k1, k2, k3, k6, k4, k5⟩ := draw_sound (b := b) (k := k) (ds := ds) (cs := cs) hl h (hs.drawn (w.drawn + 1)) hT hn (w.tape w.drawn (.order b.fn id))
      have k7 := (Step.drawn (j := j) (H := H) (w := w) (w.drawn + 1)).trans k4
      refine ⟨.normal, T', H', j', C', ds, rs, w', k1, k2, k3, k6, k7, hds.step k7, Steps.head st_draw ?_⟩
      rw [hmix]; exact k5
  | .seq x y, ac, b, k, ds, rs, j, H, w, T, C, Q, hc, h, hfn, hrd, hs, hT, hn, hn0, hds => by
    simp only [cCode] at hc
    split at hc
    · rename_i ax ay hx hy
      simp only [Option.some.injEq] at hc; subst hc
      refine Runs.head (Steps.one st_seq) (Runs.then (it := .code y) (fun id => rfl) (code_sound hmix x hx h hfn hrd hs hT hn hn0 hds) ?_)
      intro T' H' j' C' ds' rs' w' h1 h2 h3 h4 h5 h6
      exact code_sound hmix y hy h1 hfn (hrd.mono h5.sub) h2 h3 h4 (Nat.le_trans hn0 h5.keep.size) h6
    · simp at hc
  | .cond c x y, ac, b, k, ds, rs, j, H, w, T, C, Q, hc, h, hfn, hrd, hs, hT, hn, hn0, hds => by
    simp only [cCode] at hc
    split at hc
    · rename_i hok
      split at hc
      · rename_i ax ay hx hy
        simp only [Option.some.injEq] at hc; subst hc
        have hv := ev_rel hs hT hok
        unfold wp at h
        split at h
        · rename_i he
          rw [he] at hv
          have he' : cev C c = .bool true := by generalize cev C c = z at hv; cases hv; rfl
          exact Runs.head (Steps.one (st_cond (t := true) (by rw [eval_mk]; exact he'))) (code_sound hmix x hx h hfn hrd hs hT hn hn0 hds)
        · rename_i he
          rw [he] at hv
          have he' : cev C c = .bool false := by generalize cev C c = z at hv; cases hv; rfl
          exact Runs.head (Steps.one (st_cond (t := false) (by rw [eval_mk]; exact he'))) (code_sound hmix y hy h hfn hrd hs hT hn hn0 hds)
        · exact h.elim
      · simp at hc
    · simp at hc
  | .block id c, ac, b, k, ds, rs, j, H, w, T, C, Q, hc, h, hfn, hrd, hs, hT, hn, hn0, hds => by
    simp only [cCode, Option.map_eq_some_iff] at hc
    obtain ⟨a, ha, rfl⟩ := hc
    obtain ⟨e, T', H', j', C', ds', rs', w', h1, h2, h3, h4, h5, h6, h7⟩ := code_sound hmix (k := .inBlock id :: k) (cs := cs) c ha h hfn hrd hs hT hn hn0 hds
    refine Runs.head (Steps.one st_block) ?_
    cases e with
    | normal => exact ⟨.normal, T', H', j', C', ds', rs', w', h1, h2, h3, h4, h5, h6, Steps.trans h7 (Steps.one st_inBlock)⟩
    | jump jp =>
      cases jp with
      | ret => exact ⟨.jump .ret, T', H', j', C', ds', rs', w', h1, h2, h3, h4, h5, h6, h7⟩
      | exit i =>
        obtain ⟨k', h8, h9⟩ := h7
        simp only [blockP] at h1
        by_cases hi : i = id
        · rw [if_pos hi] at h1
          subst hi
          refine ⟨.normal, T', H', j', C', ds', rs', w', h1, h2, h3, h4, h5, h6, Steps.trans h9 (Steps.one (st_exit ?_))⟩
          rw [h8]; simp [exitTo]
        · rw [if_neg hi] at h1
          refine ⟨.jump (.exit i), T', H', j', C', ds', rs', w', h1, h2, h3, h4, h5, h6, k', ?_, h9⟩
          rw [h8]; simp [exitTo, Ne.symm hi]
  | .scope c, ac, b, k, ds, rs, j, H, w, T, C, Q, hc, h, hfn, hrd, hs, hT, hn, hn0, hds => by
    simp only [cCode, Option.map_eq_some_iff] at hc
    obtain ⟨a, ha, rfl⟩ := hc
    have h' : wp (Conc P) cx a T H Q := h
    obtain ⟨e, T', H', j', C', ds', rs', w', h1, h2, h3, h4, h5, h6, h7⟩ := code_sound hmix (k := .inScope c :: k) (cs := cs) c ha h' hfn hrd hs hT hn hn0 hds
    refine Runs.head (Steps.one st_scope) ⟨e, T', H', j', C', ds', rs', w', h1, h2, h3, h4, h5, h6, ?_⟩
    cases e with
    | normal => exact Steps.trans h7 (Steps.one st_inScope)
    | jump jp =>
      cases jp with
      | ret => exact h7
      | exit i => obtain ⟨k', h8, h9⟩ := h7; exact ⟨k', h8.trans rfl, h9⟩
  | .loop c, ac, b, k, ds, rs, j, H, w, T, C, Q, hc, h, hfn, hrd, hs, hT, hn, hn0, hds => by
    simp only [cCode, Option.map_eq_some_iff] at hc
    obtain ⟨a, ha, rfl⟩ := hc
    have h' : loopP (fun T H Q => wp (Conc P) cx a T H Q) T H Q := h
    refine Runs.head (Steps.one st_loop) ?_
    refine h' (fun T H => ∀ (j : Inj) (w : World) (C : Array Value) (ds : List Deferred) (rs : List Nat), RdRel j cx.rd b.rd → Sim P j H w → VsRel j T C.toList → C.size = n → n0 ≤ w.heap.size → DefOK n0 j w ds rs →
      Runs P n n0 b k cs Q j H w (lone (Ab.mk b C (.code c :: .inLoop c :: k) ds) cs w)) ?_ j w C ds rs hrd hs hT hn hn0 hds
    intro T H hb j w C ds rs hrd hs hT hn hn0 hds
    refine Runs.then (it := .inLoop c) (fun id => rfl) (code_sound hmix c ha hb hfn hrd hs hT hn hn0 hds) ?_
    intro T' H' j' C' ds' rs' w' h1 h2 h3 h4 h5 h6
    exact Runs.head (Steps.one st_inLoop) (h1 j' w' C' ds' rs' (hrd.mono h5.sub) h2 h3 h4 (Nat.le_trans hn0 h5.keep.size) h6)
  | .rangeFunc f ps assign body, ac, b, k, ds, rs, j, H, w, T, C, Q, hc, h, hfn, hrd, hs, hT, hn, hn0, hds => by
    simp only [cCode] at hc
    split at hc
    · rename_i hok
      split at hc
      · rename_i aa ab haa hab
        simp only [Option.some.injEq] at hc; subst hc
        have h' : roundOk cx H ∧ callWp (Conc P) (ev T f) [.func (.yield H.size) #[] #[]] (H.push (.loop { state := .ready, pending := none, fn := cx.fn, tmps := T, params := ps.toList, assign := aa, body := ab })) fun _ H' => endRange H.size T Q H' := h
        obtain ⟨hro, hcall⟩ := h'
        have hTn : T.length = n := by rw [hT.length, Array.length_toList, hn]
        obtain ⟨l, mark, w1, j1, s, rs1, he, rfl, hj1, hs1, hst1, hds1⟩ := enter_sound hs hfn hrd hro hT hn0 hds (ps := ps) (hTn ▸ haa) (hTn ▸ hab)
        have hf := (ev_rel hs hT hok).mono hst1.sub
        obtain ⟨v, H', j', v', w', hend, _, hs2, hst2, hsteps⟩ := call_sound hs1 hf (args' := #[.func (.yield s.blk) #[] #[]]) (.cons (.yield hj1) .nil) hcall (Ab.mk b C (.inRangeFunc s.blk :: k) (mark ++ ds)) cs
          (lone (Ab.mk b C (.code (.rangeFunc f ps assign body) :: k) ds) cs w)
          (by
            intro g first captured fn e1 e2 e3 e4
            refine st_range_enter he (d := { target := .fn (.func g) captured, args := first ++ #[.func (.yield s.blk) #[] #[]] }) (w1' := w1) ?_ ?_
            · simp [resolve, rangeCall, e1, Deferred.ofValue, cev_const]
            · have := run_callFunc (P := P) (w := w1) (args := (first ++ #[.func (.yield s.blk) #[] #[]]) ++ captured) e2 e3 e4
              simpa [invoke] using this)
          (by
            intro l2 r' e1 e2 e3
            refine st_range_round he (d := { target := .fn (.yield l2) #[], args := #[] ++ #[.func (.yield s.blk) #[] #[]] }) (w1' := w1) ?_ ?_
            · simp [resolve, rangeCall, e1, Deferred.ofValue, cev_const]
            · have hg := run_getObj (P := P) e2
              have e3' : r'.params.size = 1 := by simpa using e3.symm
              simp [invoke, Instr.yield, Instr.getLoop, hg, e3'])
        have hfin : (Ab.mk b C (.inRangeFunc s.blk :: k) (mark ++ ds)).finish v' = Ab.mk b C (.endRangeFunc s.blk :: k) (mark ++ ds) := by simp [Frame.finish, Ab.mk]
        rw [hfin] at hsteps
        unfold endRange at hend
        split at hend
        · rename_i r hgr
          obtain ⟨hne, hQ⟩ := hend
          have hj2 := hst2.sub _ _ hj1
          obtain ⟨h0, r', ho, hr⟩ := hs2.blk _ _ _ hj2 hgr
          have hlt := (hs2.dom _ _ hj2).2
          have hne' : r'.state ≠ LoopState.busy := by rw [hr.state]; exact hne
          have hgo := run_getObj (P := P) ho
          have hso := run_setObj (P := P) ho (o' := .loop { r' with state := .exhausted })
          have hel : (Instr.endLoop s.blk).run P w' = .ok (r.pending.map Jump.code) { w' with heap := w'.heap.setIfInBounds s.blk (.loop { r' with state := .exhausted }) } := by
            rw [← hr.pending]
            simp [Instr.endLoop, Instr.getLoop, Sem.run_bind, hgo, hso, Result.andThen, hne']
          have hchg := hs2.change (w' := { w' with heap := w'.heap.setIfInBounds s.blk (.loop { r' with state := .exhausted }) }) (x' := .loop { r with state := .exhausted }) hj2 hgr rfl
            (by intro q hq; simp [Ne.symm hq]) (by simp) rfl rfl rfl (by
              have : ({ w' with heap := w'.heap.setIfInBounds s.blk (.loop { r' with state := .exhausted }) } : World).heap[s.blk]? = some (.loop { r' with state := .exhausted }) := by simp [hlt]
              rw [this]
              exact ⟨h0, _, rfl, ⟨rfl, hr.pending, hr.fn, hr.tmps, hr.params, hr.assign, hr.body⟩⟩)
          have hst3 := hst2.trans hchg.2
          refine ⟨AJump.toEx r.pending, T, _, j', C, mark ++ ds, rs1, _, hQ, hchg.1, hT.mono (hst1.sub.trans hst2.sub), hn, hst1.trans hst3, hds1.step hst3, ?_⟩
          have hst4 := hsteps.trans (Steps.one (st_endRange (b := b) (C := C) (k := k) (ds := mark ++ ds) (cs := cs) hel))
          generalize r.pending = rp at hst4
          cases rp with
          | none => exact hst4
          | some jp =>
            cases jp with
            | exit id => exact ⟨k, rfl, hst4⟩
            | ret => exact ⟨k, hst4⟩
        · exact hend.elim
      · simp at hc
    · simp at hc

end
end Ab
