/- Operations that make a block. -/
import Derived.Test.YtfcpgeanbklleaaGreatDoorOpsRead
set_option linter.unusedSectionVars false
set_option linter.unusedSimpArgs false
set_option linter.unusedVariables false
namespace Ab
open Go

def Inj.upd (j : Inj) (id : Nat) (s : Spot) : Inj := fun b => if b = id then some s else j b

theorem Inj.upd_le {j : Inj} {id : Nat} {s : Spot} (h : j id = none) : j.le (j.upd id s) := by
  intro b s' hb
  unfold Inj.upd
  split
  · rename_i e; subst e; rw [h] at hb; cases hb
  · exact hb

theorem Inj.upd_self {j : Inj} {id : Nat} {s : Spot} : j.upd id s id = some s := by simp [Inj.upd]

theorem Inj.upd_inv {j : Inj} {id b : Nat} {s s' : Spot} (h : j.upd id s b = some s') : (b = id ∧ s' = s) ∨ (b ≠ id ∧ j b = some s') := by
  unfold Inj.upd at h
  split at h
  · rename_i e; exact .inl ⟨e, by simpa using h.symm⟩
  · rename_i e; exact .inr ⟨e, h⟩

section
variable {P : Program} {j : Inj} {ρ ρ' : Operand → Value} {w : World} {H : Heap}

theorem heap_push_old {o : Obj} {r : Nat} (h : r < w.heap.size) : (w.heap.push o)[r]? = w.heap[r]? := by
  rw [Array.getElem?_push]
  split
  · omega
  · rfl

/-- A block of the heap that lies nowhere yet is laid. -/
theorem Sim.lay (hs : Sim P j H w) {id : Nat} {x : Blk} {s : Spot} {o : Obj} (hj : j id = none) (hg : H.get id = some x) (hlt : id < H.size) (hb : s.blk = w.heap.size)
    (hx : BRel P (j.upd id s) s x (some o)) : Sim P (j.upd id s) H { w with heap := w.heap.push o } where
  wf := hs.wf
  glob g hgl := by
    obtain ⟨s', h1, h2, h3⟩ := hs.glob g hgl
    exact ⟨s', Inj.upd_le hj _ _ h1, h2, h3⟩
  dom b s' hb' := by
    rcases Inj.upd_inv hb' with ⟨rfl, rfl⟩ | ⟨_, h⟩
    · exact ⟨hlt, by simp [hb]⟩
    · have := hs.dom b s' h
      exact ⟨this.1, by simp; omega⟩
  inj b b' s1 s2 x1 x2 h1 h2 hg1 hg2 hr1 hr2 he := by
    rcases Inj.upd_inv h1 with ⟨rfl, rfl⟩ | ⟨n1, h1'⟩ <;> rcases Inj.upd_inv h2 with ⟨rfl, rfl⟩ | ⟨n2, h2'⟩
    · rfl
    · have := (hs.dom _ _ h2').2; omega
    · have := (hs.dom _ _ h1').2; omega
    · exact hs.inj b b' s1 s2 x1 x2 h1' h2' hg1 hg2 hr1 hr2 he
  blk b s' x' hb' hg' := by
    rcases Inj.upd_inv hb' with ⟨rfl, rfl⟩ | ⟨_, h⟩
    · rw [hg] at hg'
      cases hg'
      have : ({ w with heap := w.heap.push o } : World).heap[s'.blk]? = some o := by simp [hb]
      rw [this]
      exact hx
    · have hd := (hs.dom _ _ h).2
      show BRel P _ s' x' ((w.heap.push o)[s'.blk]?)
      rw [heap_push_old hd]
      exact (hs.blk _ _ _ h hg').mono (Inj.upd_le hj)

theorem Sim.push (hs : Sim P j H w) (x : Blk) : Sim P j (H.push x) w where
  wf i hi := by
    rw [Heap.size_push] at hi
    rw [Heap.get_push, if_neg (by omega)]
    exact hs.wf i (by omega)
  glob := hs.glob
  dom b s h := ⟨by have := (hs.dom b s h).1; simp [Heap.push]; omega, (hs.dom b s h).2⟩
  inj b b' s1 s2 x1 x2 h1 h2 hg1 hg2 := by
    have d1 := (hs.dom _ _ h1).1
    have d2 := (hs.dom _ _ h2).1
    simp only [Heap.push] at hg1 hg2
    rw [if_neg (by omega)] at hg1 hg2
    exact hs.inj b b' s1 s2 x1 x2 h1 h2 hg1 hg2
  blk b s x' h hg := by
    have d := (hs.dom _ _ h).1
    simp only [Heap.push] at hg
    rw [if_neg (by omega)] at hg
    exact hs.blk b s x' h hg

theorem Sim.fresh (hs : Sim P j H w) : j H.size = none := by
  cases h : j H.size with
  | none => rfl
  | some s => have := (hs.dom _ _ h).1; omega

/-- What laying one block changes. -/
structure Lays (j : Inj) (w : World) (id : Nat) (j' : Inj) (w' : World) : Prop where
  sub : j.le j'
  new : ∀ b s, j' b = some s → j b = some s ∨ (b = id ∧ w.heap.size ≤ s.blk)
  size : w.heap.size ≤ w'.heap.size
  tape : w'.tape = w.tape
  os : w'.os = w.os
  output : w'.output = w.output
  same : ∀ r, r < w.heap.size → w'.heap[r]? = w.heap[r]?

theorem Lays.push {id : Nat} {s : Spot} {o : Obj} (hj : j id = none) (hb : s.blk = w.heap.size) : Lays j w id (j.upd id s) { w with heap := w.heap.push o } where
  sub := Inj.upd_le hj
  new b s' h := by
    rcases Inj.upd_inv h with ⟨rfl, rfl⟩ | ⟨_, h⟩
    · exact .inr ⟨rfl, by omega⟩
    · exact .inl h
  size := by simp
  tape := rfl
  os := rfl
  output := rfl
  same r hr := heap_push_old hr

theorem flatten_replicate_get {z : List Value} {n i : Nat} {v : Value} (h : (List.replicate n z).flatten[i]? = some v) : z[i % z.length]? = some v := by
  induction n generalizing i with
  | zero => simp at h
  | succ n ih =>
    rw [List.replicate_succ, List.flatten_cons] at h
    by_cases hi : i < z.length
    · rw [List.getElem?_append_left hi] at h
      rwa [Nat.mod_eq_of_lt hi]
    · rw [List.getElem?_append_right (by omega)] at h
      have := ih h
      rw [Nat.mod_eq_sub_mod (by omega)]
      exact this

theorem repl_length (n : Nat) (z : List Value) : (repl n z).length = n * z.length := by
  induction n with
  | zero => simp [repl]
  | succ n ih =>
    simp only [repl] at ih ⊢
    rw [List.replicate_succ, List.flatten_cons, List.length_append, ih, Nat.succ_mul]
    omega

/-- Go's zero cells. -/
theorem repl_rel {z : List Value} {n m : Nat} (hz : z.all isScalarCell = true) (hm : m = n * z.length) (zc : Array Value) (hzc : zc.toList = z) :
    VsRel j (repl n z) ((Array.range m).map (zc[· % zc.size]!)).toList := by
  have hsz : zc.size = z.length := by rw [← hzc]; simp
  refine VsRel.of_get ?_ ?_
  · rw [repl_length]; simp [hm]
  · intro i v v' hv hv'
    have h1 := flatten_replicate_get hv
    have hi : i < m := by
      have := (List.getElem?_eq_some_iff.1 hv').1
      simpa using this
    have hv2 : v' = zc[i % zc.size]! := by
      simp [hi] at hv'
      exact hv'.symm
    have h2 : zc[i % zc.size]! = v := by
      rw [hsz]
      have h1' : zc[i % z.length]? = some v := by rw [← h1, ← hzc]; simp
      rw [Array.getElem!_eq_getD, Array.getD_eq_getD_getElem?, h1']
      rfl
    rw [hv2, h2]
    exact VRel.closedCell j (List.all_eq_true.1 hz v (List.mem_of_getElem? h1))

theorem cells_brel {s : Spot} {cs : List Value} {c : Array Value} {t : TypeId} {e : Nat} (h0 : s.sh = 0) (hc : s.cap = c.size) (he : s.esz = e) (h : VsRel j cs c.toList) :
    BRel P j s (.cells false e cs) (some (.cells c t)) := by
  refine ⟨c, t, (0, 0), rfl, he, ?_, fun _ => ⟨rfl, by omega, ?_⟩⟩
  · intro i v hv
    obtain ⟨v', h1, h2⟩ := h.get hv
    exact ⟨v', by rw [h0, Nat.zero_add]; simpa using h1, h2⟩
  · have := h.length
    simp at this
    omega


theorem map_places (parts : List (Nat × Operand)) (n : Nat) : (parts.map fun (k, x) => (k * n, n, x)).length = parts.length ∧ ∀ (i : Nat) (p : Nat × Nat × Operand) (q : Nat × Operand),
    (parts.map fun (k, x) => (k * n, n, x))[i]? = some p → parts[i]? = some q → p.2.2 = q.2 ∧ (fun k => some (k * n, n)) q.1 = some (p.1, p.2.1) := by
  refine ⟨by simp, ?_⟩
  intro i p q hp hq
  simp only [List.getElem?_map, hq, Option.map_some, Option.some.injEq] at hp
  subst hp
  exact ⟨rfl, rfl⟩

theorem run_buildSlice' {t e : TypeId} {n : Nat} {i : TypeInfo} {z0 : Value} {parts : Array (Nat × Value)} {out : Array Value} (hu : P.underlying t = some (.slice e)) (hi : P.info? e = some i) (hz0 : i.zero = some z0)
    (hsz : n * i.size ≤ 65536) (ho : Instr.fill (fun k => some (k * i.size, i.size)) ((Array.range (n * i.size)).map (z0.cells[· % z0.cells.size]!)) parts.toList = some out) :
    (Instr.buildSlice t n parts).run P w = .ok (.slice (some ⟨w.heap.size, 0, none⟩) n n) { w with heap := w.heap.push (.cells out e) } := by
  have h24 : ¬ n * i.size > 2 ^ 24 := by omega
  unfold Instr.buildSlice
  simp only [Sem.run_bind, run_ul hu, Result.andThen_ok, run_so hi, h24, if_false, Sem.run_pure]
  by_cases hz2 : n * i.size = 0
  · rw [if_pos hz2]
    rw [hz2] at ho ⊢
    have e0 : ∀ f : Nat → Value, (Array.range 0).map f = #[] := fun f => by simp
    rw [e0] at ho
    simp only [Sem.run_bind, Sem.run_pure, Result.andThen_ok]
    rw [e0, ho]
    simp [newRow]
  · rw [if_neg hz2]
    simp only [Sem.run_bind, Sem.run_pure, Result.andThen_ok, zeroValue, run_ti hi, hz0]
    rw [ho]
    simp [newRow]

theorem run_makeSlice' {t e : TypeId} {i : TypeInfo} {z0 : Value} {k k' : IntKind} {l c : Int} (hu : P.underlying t = some (.slice e)) (hi : P.info? e = some i) (hz0 : i.zero = some z0) (hsz : i.size ≠ 0)
    (h0 : 0 ≤ l) (h1 : l ≤ c) (h2 : c * i.bytes ≤ 281474976710656) (h3 : c ≤ 281474976710656) :
    (Instr.makeSlice t (.int k l) (.int k' c)).run P w = .ok (.slice (some ⟨w.heap.size, 0, none⟩) l.toNat c.toNat)
      { w with heap := w.heap.push (.cells ((Array.range (c.toNat * i.size)).map (z0.cells[· % z0.cells.size]!)) e) } := by
  have w1 : IntKind.i64.wrap l = l := wrap_i64 ⟨by omega, by omega⟩
  have w2 : IntKind.i64.wrap c = c := wrap_i64 ⟨by omega, by omega⟩
  have h2' : ¬ ((i.bytes : Int) * c > 2 ^ 48) := by rw [Int.mul_comm]; omega
  have h2'' : ¬ ((c < 0 || decide ((i.bytes : Int) * c > 2 ^ 48)) = true) := by simp; omega
  unfold Instr.makeSlice
  simp only [Sem.run_bind, run_ul hu, Result.andThen_ok, asInt, asIntOf, Sem.run_pure, run_ti hi, w1, w2]
  rw [if_neg (by
    simp only [Bool.or_eq_true, decide_eq_true_eq, not_or]
    refine ⟨⟨⟨by omega, h2'⟩, by omega⟩, by omega⟩)]
  simp only [Sem.run_bind, run_askRoom, Result.andThen_ok, run_so hi]
  by_cases hz : c.toNat * i.size = 0
  · rw [hz]
    have e0 : ∀ f : Nat → Value, (Array.range 0).map f = #[] := fun f => by simp
    simp only [if_true, Sem.run_bind, Sem.run_pure, Result.andThen_ok]
    rw [e0, e0]
    simp [newRow]
  · simp only [hz, if_false, Sem.run_bind, zeroValue, run_ti hi, hz0, Sem.run_pure, Result.andThen_ok]
    simp [newRow]

/-- THE THEOREM OF WHAT IS MADE: the block lies where the model lays it. -/
theorem new_sound (hs : Sim P j H w) {o : Oper} {a : AOp} {x : Blk} {f : Nat → Value} (hc : cOp P o.op o.type = some a) (hcl : a.cls = .new) (hn : newOp ρ H a = some (x, f)) (hr : OpRel j ρ ρ' a)
    {id : Nat} (hj : j id = none) (hg : H.get id = some x) (hlt : id < H.size) :
    ∃ v' w' j', (execOp ρ' o).run P w = .ok (.value v') w' ∧ Sim P j' H w' ∧ VRel j' (f id) v' ∧ Lays j w id j' w' := by
  have lay : ∀ (s : Spot) (ob : Obj), s.blk = w.heap.size → BRel P (j.upd id s) s x (some ob) → Sim P (j.upd id s) H { w with heap := w.heap.push ob } ∧ Lays j w id (j.upd id s) { w with heap := w.heap.push ob } :=
    fun s ob hb hx => ⟨hs.lay hj hg hlt hb hx, Lays.push hj hb⟩
  obtain ⟨dst, op, type, pos, after, guard⟩ := o
  simp only at hc
  cases op with
  | alloc t =>
    simp only [cOp, Option.map_eq_some_iff] at hc
    obtain ⟨z, hz, rfl⟩ := hc
    simp only [newOp, Option.some.injEq, Prod.mk.injEq] at hn
    obtain ⟨rfl, rfl⟩ := hn
    obtain ⟨i, z0, hi, hz0, hze, hza, hzl⟩ := zeroOf_some hz
    obtain ⟨h1, h2⟩ := lay ⟨w.heap.size, 0, z0.cells.size, 0⟩ (.cells z0.cells t) rfl (cells_brel rfl rfl rfl (by rw [Value.cells_eq, hze]; exact VsRel.closed _ hza))
    refine ⟨.pointer (some ⟨w.heap.size, 0, none⟩), _, _, exec_value (s := Instr.alloc t true (.tuple #[])) rfl ?_, h1, ?_, h2⟩
    · simp [Instr.alloc, zeroValue, run_ti hi, hz0, newVar, newRow]
    · exact VRel.ptr (s := ⟨w.heap.size, 0, z0.cells.size, 0⟩) Inj.upd_self
  | box t v =>
    simp only [cOp, Option.some.injEq] at hc; subst hc
    simp only [newOp, Option.some.injEq, Prod.mk.injEq] at hn
    obtain ⟨rfl, rfl⟩ := hn
    have hv := hr v (by simp [AOp.operands])
    obtain ⟨h1, h2⟩ := lay ⟨w.heap.size, 0, (ρ' v).cells.size, 0⟩ (.cells (ρ' v).cells t) rfl (cells_brel rfl rfl rfl (by rw [Value.cells_eq]; exact (hv.mono (Inj.upd_le hj)).cells))
    refine ⟨.pointer (some ⟨w.heap.size, 0, none⟩), _, _, exec_value (s := Instr.box t (ρ' v)) rfl ?_, h1, ?_, h2⟩
    · simp [Instr.box, newVar, newRow]
    · exact VRel.ptr (s := ⟨w.heap.size, 0, (ρ' v).cells.size, 0⟩) Inj.upd_self
  | buildSlice t n parts =>
    simp only [cOp] at hc
    split at hc
    · rename_i e hu
      split at hc
      · rename_i i z hi hz
        split at hc
        · rename_i hsz
          simp only [Option.some.injEq] at hc; subst hc
          simp only [newOp, Option.map_eq_some_iff, Prod.mk.injEq] at hn
          obtain ⟨cs, hcs, rfl, rfl⟩ := hn
          obtain ⟨i', z0, hi', hz0, hze, hza, hzl⟩ := zeroOf_some hz
          rw [hi] at hi'; cases hi'
          have hzc : z0.cells.toList = z := by rw [Value.cells_eq, hze]
          have hrep := repl_rel (j := j) (n := n) (m := n * i.size) hza (by rw [hzl]) z0.cells hzc
          have hfill := fill_sound (place := fun k => some (k * i.size, i.size)) (ps := parts.toList.map fun (k, x) => (k * i.size, i.size, x)) (qs := parts.toList) (j := j) (ρ := ρ) (ρ' := ρ')
            (cs' := (Array.range (n * i.size)).map (z0.cells[· % z0.cells.size]!)) (cs := repl n z) (out := cs)
          obtain ⟨out', ho, hrel⟩ := hfill (map_places _ _) (fun p hp => hr p.2.2 (by simp only [AOp.operands]; exact List.mem_map_of_mem (f := fun q => q.2.2) hp)) hrep hcs
          obtain ⟨h1, h2⟩ := lay ⟨w.heap.size, 0, out'.size, i.size⟩ (.cells out' e) rfl (cells_brel rfl rfl rfl (hrel.mono (Inj.upd_le hj)))
          have hex : ∀ parts' : Array (Nat × Value), parts' = (parts.map fun (i, x) => (i, ρ' x)) → (Instr.buildSlice t n parts').run P w = .ok (.slice (some ⟨w.heap.size, 0, none⟩) n n) { w with heap := w.heap.push (.cells out' e) } →
              (execOp ρ' ⟨dst, .buildSlice t n parts, type, pos, after, guard⟩).run P w = .ok (.value (.slice (some ⟨w.heap.size, 0, none⟩) n n)) { w with heap := w.heap.push (.cells out' e) } := by
            intro parts' he h
            refine exec_value (s := Instr.buildSlice t n parts') (by rw [he]; rfl) h
          have hlist : ∃ parts' : Array (Nat × Value), parts' = (parts.map fun (i, x) => (i, ρ' x)) ∧ parts'.toList = parts.toList.map fun q => (q.1, ρ' q.2) := ⟨_, rfl, by rw [Array.toList_map]⟩
          obtain ⟨parts', he, hl⟩ := hlist
          rw [← hl] at ho
          have hrun := run_buildSlice' (P := P) (w := w) (n := n) (t := t) (parts := parts') hu hi hz0 hsz.1 ho
          refine ⟨.slice (some ⟨w.heap.size, 0, none⟩) n n, _, _, hex parts' he hrun, h1, ?_, h2⟩
          exact VRel.exact (s := ⟨w.heap.size, 0, out'.size, i.size⟩) (o := 0) Inj.upd_self (by unfold openCap; omega) (Nat.le_refl _)
        · simp at hc
      · simp at hc
    · simp at hc
  | makeSlice t l c =>
    simp only [cOp] at hc
    split at hc
    · rename_i e hu
      split at hc
      · rename_i i z hi hz
        split at hc
        · rename_i hsz
          simp only [Option.some.injEq] at hc; subst hc
          have hl := hr l (by simp [AOp.operands])
          have hcc := hr c (by simp [AOp.operands])
          simp only [newOp] at hn
          split at hn
          · rename_i kl l' kc c' el ec
            rw [el] at hl; rw [ec] at hcc
            split at hn
            · rename_i hb
              simp only [Option.some.injEq, Prod.mk.injEq] at hn
              obtain ⟨rfl, rfl⟩ := hn
              obtain ⟨i', z0, hi', hz0, hze, hza, hzl⟩ := zeroOf_some hz
              rw [hi] at hi'; cases hi'
              have hzc : z0.cells.toList = z := by rw [Value.cells_eq, hze]
              have hrep := repl_rel (j := j) (n := c'.toNat) (m := c'.toNat * i.size) hza (by rw [hzl]) z0.cells hzc
              obtain ⟨h1, h2⟩ := lay ⟨w.heap.size, 0, ((Array.range (c'.toNat * i.size)).map (z0.cells[· % z0.cells.size]!)).size, i.size⟩ (.cells ((Array.range (c'.toNat * i.size)).map (z0.cells[· % z0.cells.size]!)) e) rfl (cells_brel rfl rfl rfl (hrep.mono (Inj.upd_le hj)))
              have hrun := run_makeSlice' (P := P) (w := w) (k := kl) (k' := kc) hu hi hz0 hsz hb.1 hb.2.1 hb.2.2.1 hb.2.2.2
              rw [← hl.inv_int, ← hcc.inv_int] at hrun
              refine ⟨.slice (some ⟨w.heap.size, 0, none⟩) l'.toNat c'.toNat, _, _, exec_value (s := Instr.makeSlice t (ρ' l) (ρ' c)) rfl hrun, h1, ?_, h2⟩
              exact VRel.exact (s := ⟨w.heap.size, 0, _, i.size⟩) (o := 0) Inj.upd_self (by unfold openCap; omega) (by omega)
            · simp at hn
          · simp at hn
        · simp at hc
      · simp at hc
    · simp at hc
  | makeMap t r =>
    cases r <;> simp only [cOp, reduceCtorEq] at hc
    split at hc
    · simp only [Option.some.injEq] at hc; subst hc
      simp only [newOp, Option.some.injEq, Prod.mk.injEq] at hn
      obtain ⟨rfl, rfl⟩ := hn
      obtain ⟨h1, h2⟩ := lay ⟨w.heap.size, 0, 0, 0⟩ (.map #[] 0) rfl ⟨rfl, #[], rfl, .nil⟩
      refine ⟨.map (some w.heap.size), _, _, exec_value (s := Instr.makeMap t none) rfl ?_, h1, ?_, h2⟩
      · simp [Instr.makeMap]
      · exact VRel.map (s := ⟨w.heap.size, 0, 0, 0⟩) Inj.upd_self
    · simp at hc
  | range t m =>
    simp only [cOp] at hc
    split at hc
    · rename_i kt e hu
      simp only [Option.some.injEq] at hc; subst hc
      have hm := hr m (by simp [AOp.operands])
      simp only [newOp] at hn
      split at hn
      · rename_i em
        rw [em] at hm
        simp only [Option.some.injEq, Prod.mk.injEq] at hn
        obtain ⟨rfl, rfl⟩ := hn
        have em' : ρ' m = .map none := by
          generalize ρ' m = y at hm
          cases hm; rfl
        obtain ⟨h1, h2⟩ := lay ⟨w.heap.size, 0, 0, 0⟩ (.mapIter none 0 #[] 0) rfl ⟨rfl, none, #[], rfl, rfl, trivial⟩
        refine ⟨.pointer (some ⟨w.heap.size, 0, none⟩), _, _, exec_value (s := Instr.range t (ρ' m)) rfl ?_, h1, VRel.ptr (s := ⟨w.heap.size, 0, 0, 0⟩) Inj.upd_self, h2⟩
        rw [em']
        simp [Instr.range, run_ul hu]
      · rename_i r em
        rw [em] at hm
        split at hn
        · rename_i es clock hgm
          simp only [Option.some.injEq, Prod.mk.injEq] at hn
          obtain ⟨rfl, rfl⟩ := hn
          obtain ⟨sm, hjm, em'⟩ : ∃ sm, j r = some sm ∧ ρ' m = .map (some sm.blk) := by
            generalize ρ' m = y at hm
            cases hm with
            | map hjm => exact ⟨_, hjm, rfl⟩
          obtain ⟨_, es', hom, hes⟩ := hs.blk _ _ _ hjm hgm
          obtain ⟨h1, h2⟩ := lay ⟨w.heap.size, 0, 0, 0⟩ (.mapIter (some sm.blk) clock #[] clock) rfl ⟨rfl, some sm.blk, #[], rfl, rfl, sm, Inj.upd_le hj _ _ hjm, rfl⟩
          refine ⟨.pointer (some ⟨w.heap.size, 0, none⟩), _, _, exec_value (s := Instr.range t (ρ' m)) rfl ?_, h1, VRel.ptr (s := ⟨w.heap.size, 0, 0, 0⟩) Inj.upd_self, h2⟩
          rw [em']
          simp [Instr.range, run_ul hu, run_getObj_map hom]
        · simp at hn
      · simp at hn
    · simp at hc
  | move x => simp only [cOp, Option.some.injEq] at hc; subst hc; simp [AOp.cls] at hcl
  | assign x => simp only [cOp, Option.some.injEq] at hc; subst hc; simp [AOp.cls] at hcl
  | pick c x y => simp only [cOp, Option.some.injEq] at hc; subst hc; simp [AOp.cls] at hcl
  | unOp o t x => simp only [cOp, Option.some.injEq] at hc; subst hc; simp [AOp.cls] at hcl
  | store t x y => simp only [cOp, Option.map_eq_some_iff] at hc; obtain ⟨_, _, rfl⟩ := hc; simp [AOp.cls] at hcl
  | nilCheck x => simp only [cOp, Option.some.injEq] at hc; subst hc; simp [AOp.cls] at hcl
  | extract x i => simp only [cOp, Option.some.injEq] at hc; subst hc; simp [AOp.cls] at hcl
  | panic x => simp only [cOp, Option.some.injEq] at hc; subst hc; simp [AOp.cls] at hcl
  | next x s => cases s <;> simp only [cOp, Option.some.injEq, reduceCtorEq] at hc; subst hc; simp [AOp.cls] at hcl
  | makeFunc fn f c => cases fn <;> simp only [cOp, Option.some.injEq, reduceCtorEq] at hc; subst hc; simp [AOp.cls] at hcl
  | mapUpdate t m k x =>
    simp only [cOp] at hc
    split at hc
    · simp only [Option.map_eq_some_iff] at hc; obtain ⟨_, _, rfl⟩ := hc; simp [AOp.cls] at hcl
    · simp at hc
  | insert t m k x =>
    simp only [cOp] at hc
    split at hc
    · simp only [Option.map_eq_some_iff] at hc; obtain ⟨_, _, rfl⟩ := hc; simp [AOp.cls] at hcl
    · simp at hc
  | build t ps =>
    simp only [cOp] at hc
    split at hc
    · split at hc <;> simp at hc
      subst hc; simp [AOp.cls] at hcl
    · simp only [Option.map_eq_some_iff] at hc; obtain ⟨_, _, rfl⟩ := hc; simp [AOp.cls] at hcl
    · simp at hc
  | binOp op t x y yt =>
    simp only [cOp] at hc
    (repeat' split at hc) <;> simp at hc <;> (subst hc; simp [AOp.cls] at hcl)
  | convert s d x => simp only [cOp] at hc; split at hc <;> simp at hc; subst hc; simp [AOp.cls] at hcl
  | fieldAddr s x f =>
    simp only [cOp] at hc
    split at hc
    · simp only [Option.bind_eq_some_iff] at hc
      obtain ⟨fd, _, i, _, hc⟩ := hc
      split at hc <;> simp at hc
      subst hc; simp [AOp.cls] at hcl
    · simp at hc
  | field s x f =>
    simp only [cOp] at hc
    split at hc
    · simp only [Option.bind_eq_some_iff] at hc
      obtain ⟨fd, _, hc⟩ := hc
      split at hc <;> simp at hc
      subst hc; simp [AOp.cls] at hcl
    · simp at hc
  | indexAddr t x i =>
    simp only [cOp] at hc
    split at hc
    · simp only [Option.map_eq_some_iff] at hc; obtain ⟨_, _, rfl⟩ := hc; simp [AOp.cls] at hcl
    · simp only [Option.map_eq_some_iff] at hc; obtain ⟨_, _, rfl⟩ := hc; simp [AOp.cls] at hcl
    · simp at hc
  | index t x i =>
    simp only [cOp] at hc
    split at hc
    · simp only [Option.some.injEq] at hc; subst hc; simp [AOp.cls] at hcl
    · split at hc <;> simp at hc
      subst hc; simp [AOp.cls] at hcl
    · simp at hc
  | makeInterface t x => simp only [cOp] at hc; split at hc <;> simp at hc; subst hc; simp [AOp.cls] at hcl
  | load t x => simp only [cOp, Option.map_eq_some_iff] at hc; obtain ⟨_, _, rfl⟩ := hc; simp [AOp.cls] at hcl
  | entry x => simp only [cOp, Option.some.injEq] at hc; subst hc; simp [AOp.cls] at hcl
  | lookup t m k ok =>
    simp only [cOp] at hc
    split at hc
    · split at hc <;> simp at hc
      subst hc; simp [AOp.cls] at hcl
    · simp at hc
  | slice t x lo hi mx =>
    simp only [cOp] at hc
    split at hc
    · simp only [Option.map_eq_some_iff] at hc; obtain ⟨_, _, rfl⟩ := hc; simp [AOp.cls] at hcl
    · split at hc <;> simp at hc
      subst hc; simp [AOp.cls] at hcl
    · split at hc
      · simp at hc
      · simp only [Option.map_eq_some_iff] at hc; obtain ⟨_, _, rfl⟩ := hc; simp [AOp.cls] at hcl
    · split at hc
      · split at hc
        · simp at hc
        · simp only [Option.map_eq_some_iff] at hc; obtain ⟨_, _, rfl⟩ := hc; simp [AOp.cls] at hcl
      · simp at hc
    · simp at hc
  | call c =>
    obtain ⟨callee, args, argTypes⟩ := c
    simp only [cOp] at hc
    split at hc
    · simp only [Option.some.injEq] at hc; subst hc; simp [AOp.cls] at hcl
    · simp at hc
    · split at hc
      · split at hc
        · simp only [Option.some.injEq] at hc; subst hc; simp [AOp.cls] at hcl
        · simp only [Option.some.injEq] at hc; subst hc; simp [AOp.cls] at hcl
        · simp only [Option.some.injEq] at hc; subst hc; simp [AOp.cls] at hcl
        · split at hc <;> simp at hc
          subst hc; simp [AOp.cls] at hcl
        · simp only [Option.some.injEq] at hc; subst hc; simp [AOp.cls] at hcl
        · simp at hc
      · split at hc
        · split at hc <;> simp at hc <;> (subst hc; simp [AOp.cls] at hcl)
        · simp at hc
      · split at hc
        · simp only [Option.map_eq_some_iff] at hc
          obtain ⟨_, _, rfl⟩ := hc
          simp [AOp.cls] at hcl
        · simp at hc
      · split at hc
        · split at hc <;> simp at hc
          subst hc; simp [AOp.cls] at hcl
        · simp at hc
      · simp only [Option.some.injEq] at hc; subst hc; simp [AOp.cls] at hcl
      · simp only [Option.some.injEq] at hc; subst hc; simp [AOp.cls] at hcl
      · simp at hc
  | _ => simp [cOp] at hc

end
end Ab
