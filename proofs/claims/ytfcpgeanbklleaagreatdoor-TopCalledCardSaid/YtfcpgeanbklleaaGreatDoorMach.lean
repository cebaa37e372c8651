/- Frames and steps of the model's machine, for a frame of a function or of a round of a range over a function. -/
import Derived.Test.YtfcpgeanbklleaaGreatDoorOpsWrite
set_option linter.unusedSectionVars false
set_option linter.unusedSimpArgs false
set_option linter.unusedVariables false
namespace Ab
open Go

structure FB where
  fn : FuncId
  rd : Option Nat

def mk (b : FB) (C : Array Value) (todo : List Item) (ds : List Deferred) : Frame :=
  { fn := b.fn, tmps := C, todo, defers := ds, mode := .run, kind := .normal, roundOf := b.rd }

section
variable {P : Program} {b : FB} {C : Array Value} {k : List Item} {ds : List Deferred} {cs : List Frame} {w : World}

theorem st_skip : step P (lone (mk b C (.code .skip :: k) ds) cs w) = .next (lone (mk b C k ds) cs w) :=
  step_lone_go (by simp [stepG, stepG.exec, mk])
theorem st_label {l : Nat} : step P (lone (mk b C (.code (.label l) :: k) ds) cs w) = .next (lone (mk b C k ds) cs w) :=
  step_lone_go (by simp [stepG, stepG.exec, mk])
theorem st_inBlock {id : Nat} : step P (lone (mk b C (.inBlock id :: k) ds) cs w) = .next (lone (mk b C k ds) cs w) :=
  step_lone_go (by simp [stepG, stepG.exec, mk])
theorem st_inScope {c : Code} : step P (lone (mk b C (.inScope c :: k) ds) cs w) = .next (lone (mk b C k ds) cs w) :=
  step_lone_go (by simp [stepG, stepG.exec, mk])
theorem st_seq {x y : Code} : step P (lone (mk b C (.code (.seq x y) :: k) ds) cs w) = .next (lone (mk b C (.code x :: .code y :: k) ds) cs w) :=
  step_lone_go (by simp [stepG, stepG.exec, mk])
theorem st_cond {c : Operand} {x y : Code} {t : Bool} (h : (mk b C (.code (.cond c x y) :: k) ds).eval c = .bool t) :
    step P (lone (mk b C (.code (.cond c x y) :: k) ds) cs w) = .next (lone (mk b C (.code (if t then x else y) :: k) ds) cs w) :=
  step_lone_go (by
    simp only [mk] at h
    simp [stepG, stepG.exec, mk, h])
theorem st_block {id : Nat} {c : Code} : step P (lone (mk b C (.code (.block id c) :: k) ds) cs w) = .next (lone (mk b C (.code c :: .inBlock id :: k) ds) cs w) :=
  step_lone_go (by simp [stepG, stepG.exec, mk])
theorem st_scope {c : Code} : step P (lone (mk b C (.code (.scope c) :: k) ds) cs w) = .next (lone (mk b C (.code c :: .inScope c :: k) ds) cs w) :=
  step_lone_go (by simp [stepG, stepG.exec, mk])
theorem st_loop {c : Code} : step P (lone (mk b C (.code (.loop c) :: k) ds) cs w) = .next (lone (mk b C (.code c :: .inLoop c :: k) ds) cs w) :=
  step_lone_go (by simp [stepG, stepG.exec, mk])
theorem st_inLoop {c : Code} : step P (lone (mk b C (.inLoop c :: k) ds) cs w) = .next (lone (mk b C (.code c :: .inLoop c :: k) ds) cs w) :=
  step_lone_go (by simp [stepG, stepG.exec, mk])
theorem st_exit {id : Nat} {k' : List Item} (h : exitTo id k = some k') : step P (lone (mk b C (.code (.exit id) :: k) ds) cs w) = .next (lone (mk b C k' ds) cs w) :=
  step_lone_go (by simp [stepG, stepG.exec, mk, h])
theorem st_ret (h : b.rd = none) : step P (lone (mk b C (.code .ret :: k) ds) cs w) = .next (lone { mk b C (.code .ret :: k) ds with mode := .returning } cs w) :=
  step_lone_go (by simp [stepG, stepG.exec, mk, h])
theorem st_end (h : b.rd = none) : step P (lone (mk b C [] ds) cs w) = .next (lone { mk b C [] ds with mode := .returning } cs w) :=
  step_lone_go (by simp [stepG, stepG.exec, mk, h])
theorem st_region {id : Nat} {ops : Array Oper} : step P (lone (mk b C (.code (.region id ops false) :: k) ds) cs w) = .next (lone (mk b C (.inRegion ops (List.range ops.size) :: k) ds) cs w) :=
  step_lone_go (by simp [stepG, stepG.exec, mk])
theorem st_draw {id : Nat} {ops : Array Oper} : step P (lone (mk b C (.code (.region id ops true) :: k) ds) cs w) =
    .next (lone (mk b C (.inRegion ops (Region.schedule (P.follows .mixedOrders) ops (w.tape w.drawn (.order b.fn id))) :: k) ds) cs { w with drawn := w.drawn + 1 }) :=
  step_lone_go (by simp [stepG, stepG.exec, mk, choose, Sem.run, Question.forced, Question.cut])
theorem st_region_end {ops : Array Oper} : step P (lone (mk b C (.inRegion ops [] :: k) ds) cs w) = .next (lone (mk b C k ds) cs w) :=
  step_lone_go (by simp [stepG, stepG.exec, mk])

def cput (d : Option Tmp) (v : Value) (C : Array Value) : Array Value :=
  match d with
  | some t => C.setIfInBounds t v
  | none => C

theorem finish_mk {ops : Array Oper} {i : Nat} {rest : List Nat} {v : Value} : (mk b C (.inRegion ops (i :: rest) :: k) ds).finish v = mk b (cput ((ops[i]?).bind (·.dst)) v C) (.inRegion ops rest :: k) ds := by
  cases h : (ops[i]?).bind (·.dst) <;> simp [Frame.finish, mk, cput, h]

theorem st_op_skip {ops : Array Oper} {i : Nat} {rest : List Nat} (h : ((ops[i]?).map (Region.wanted · (yielded ops C))).getD false = false) :
    step P (lone (mk b C (.inRegion ops (i :: rest) :: k) ds) cs w) = .next (lone (mk b (cput ((ops[i]?).bind (·.dst)) undef C) (.inRegion ops rest :: k) ds) cs w) := by
  rw [← finish_mk]
  exact step_lone_go (by
    have h' := h
    simp only [mk] at *
    simp [stepG, stepG.exec, h', Ab.undef, Go.undef])

/-- The value of an operand in a frame. -/
def cev (C : Array Value) : Operand → Value
  | .tmp t => C.getD t undef
  | .const v => v
  | .global g => .pointer (some ⟨g, 0, none⟩)
  | .func f => .func (.func f) #[] #[]

theorem eval_mk : (mk b C k ds).eval = cev C := by
  funext x
  cases x <;> rfl

theorem stepG_op' {ops : Array Oper} {i : Nat} {rest : List Nat} {o : Oper} (ho : ops[i]? = some o) (hw : Region.wanted o (yielded ops C) = true) (hd : ∀ c, o.op ≠ .defer c) :
    stepG P true { frame := mk b C (.inRegion ops (i :: rest) :: k) ds, callers := cs, status := .running, dying := none } w =
      stepG.apply P true (mk b C (.inRegion ops (i :: rest) :: k) ds) cs none (execOp (cev C) o) w := by
  have he := eval_mk (b := b) (C := C) (k := .inRegion ops (i :: rest) :: k) (ds := ds)
  simp only [mk] at he
  cases hb : b.rd with
  | none => simp [stepG, stepG.exec, stepG.oper, Frame.oper?, mk, ho, hw, hb, ← he]
  | some l =>
    simp only [hb] at he
    have : (match (some l : Option Nat), o.op with
      | some l, .defer c => stepG.apply P true (mk b C (.inRegion ops (i :: rest) :: k) ds) cs none (do Instr.deferInRound l (← resolve (cev C) c o.type); pure .skip) w
      | _, _ => stepG.apply P true (mk b C (.inRegion ops (i :: rest) :: k) ds) cs none (execOp (cev C) o) w) = stepG.apply P true (mk b C (.inRegion ops (i :: rest) :: k) ds) cs none (execOp (cev C) o) w := by
      cases hop : o.op <;> first | rfl | exact absurd hop (hd _)
    rw [← this]
    simp only [stepG, stepG.exec, stepG.oper, Frame.oper?, mk, ho, hw, hb, Option.map_some, Option.getD_some, if_true, Option.bind_some, ← he]
    cases hop : o.op <;> rfl

theorem st_value {ops : Array Oper} {i : Nat} {rest : List Nat} {o : Oper} {v : Value} {w' : World} (ho : ops[i]? = some o) (hw : Region.wanted o (yielded ops C) = true) (hd : ∀ c, o.op ≠ .defer c)
    (hr : (execOp (cev C) o).run P w = .ok (.value v) w') :
    step P (lone (mk b C (.inRegion ops (i :: rest) :: k) ds) cs w) = .next (lone (mk b (cput o.dst v C) (.inRegion ops rest :: k) ds) cs w') := by
  have hf := finish_mk (b := b) (C := C) (k := k) (ds := ds) (ops := ops) (i := i) (rest := rest) (v := v)
  rw [ho] at hf
  refine step_lone_go ?_
  rw [stepG_op' ho hw hd]
  simp only [Option.bind_some] at hf
  rw [← hf]
  simp [stepG.apply, hr]

theorem st_none {ops : Array Oper} {i : Nat} {rest : List Nat} {o : Oper} {w' : World} (ho : ops[i]? = some o) (hw : Region.wanted o (yielded ops C) = true) (hd : ∀ c, o.op ≠ .defer c)
    (hr : (execOp (cev C) o).run P w = .ok .skip w') :
    step P (lone (mk b C (.inRegion ops (i :: rest) :: k) ds) cs w) = .next (lone (mk b (cput o.dst undef C) (.inRegion ops rest :: k) ds) cs w') := by
  have hf := finish_mk (b := b) (C := C) (k := k) (ds := ds) (ops := ops) (i := i) (rest := rest) (v := undef)
  rw [ho] at hf
  refine step_lone_go ?_
  rw [stepG_op' ho hw hd]
  simp only [Option.bind_some] at hf
  rw [← hf]
  simp [stepG.apply, hr, Ab.undef, Go.undef]

theorem st_enter {ops : Array Oper} {i : Nat} {rest : List Nat} {o : Oper} {f : FuncId} {args : Array Value} {w' : World} (ho : ops[i]? = some o) (hw : Region.wanted o (yielded ops C) = true) (hd : ∀ c, o.op ≠ .defer c)
    (hr : (execOp (cev C) o).run P w = .ok (.enter f args) w') :
    step P (lone (mk b C (.inRegion ops (i :: rest) :: k) ds) cs w) = .next (lone (Frame.enter P f args .normal) (mk b C (.inRegion ops (i :: rest) :: k) ds :: cs) w') := by
  refine step_lone_go ?_
  rw [stepG_op' ho hw hd]
  simp [stepG.apply, hr, mk]

theorem st_round {ops : Array Oper} {i : Nat} {rest : List Nat} {o : Oper} {l : Nat} {f : FuncId} {tmps : Array Value} {assign body : Code} {w' : World} (ho : ops[i]? = some o) (hw : Region.wanted o (yielded ops C) = true) (hd : ∀ c, o.op ≠ .defer c)
    (hr : (execOp (cev C) o).run P w = .ok (.round l f tmps assign body) w') :
    step P (lone (mk b C (.inRegion ops (i :: rest) :: k) ds) cs w) = .next (lone (Frame.round l f tmps assign body .normal) (mk b C (.inRegion ops (i :: rest) :: k) ds :: cs) w') := by
  refine step_lone_go ?_
  rw [stepG_op' ho hw hd]
  simp [stepG.apply, hr]

end
end Ab
