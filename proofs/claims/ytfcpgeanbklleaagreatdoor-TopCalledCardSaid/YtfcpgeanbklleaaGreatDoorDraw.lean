/- Regions that draw their order: every order that the machine may draw comes to what the one order of the abstract machine comes to. -/
import Derived.Test.YtfcpgeanbklleaaGreatDoorRegion
import Derived.Orders
set_option linter.unusedSectionVars false
set_option linter.unusedSimpArgs false
set_option linter.unusedVariables false
namespace Ab
open Go

/-! ### The masks -/

theorem foldl_more {acc tl : List Nat} : ∀ (es : List Edge) (s : Nat), (∀ e ∈ es, Region.binds .any e = true → e.on < acc.length) →
    es.foldl (fun s e => if Region.binds .any e then s ||| 2 ^ e.on ||| acc.getD e.on 0 else s) s = es.foldl (fun s e => if Region.binds .any e then s ||| 2 ^ e.on ||| (acc ++ tl).getD e.on 0 else s) s
  | [], _, _ => rfl
  | e :: es, s, h => by
    simp only [List.foldl_cons]
    have : (if Region.binds .any e then s ||| 2 ^ e.on ||| acc.getD e.on 0 else s) = (if Region.binds .any e then s ||| 2 ^ e.on ||| (acc ++ tl).getD e.on 0 else s) := by
      by_cases hb : Region.binds .any e = true
      · have hlt := h e (by simp) hb
        simp [hb, List.getD, List.getElem?_append_left hlt]
      · simp [hb]
    rw [this]
    exact foldl_more es _ (fun e' he' => h e' (by simp [he']))

theorem maskOf_more {acc tl : List Nat} {es : List Edge} (h : ∀ e ∈ es, Region.binds .any e = true → e.on < acc.length) : maskOf acc es = maskOf (acc ++ tl) es := foldl_more es 0 h

theorem masks_fold : ∀ (l : List Oper) (acc : List Nat), ∃ tail, l.foldl (fun acc o => acc ++ [maskOf acc o.after.toList]) acc = acc ++ tail ∧ tail.length = l.length ∧
    ∀ i o, l[i]? = some o → (∀ e ∈ o.after.toList, Region.binds .any e = true → e.on < acc.length + i) → tail[i]? = some (maskOf (acc ++ tail) o.after.toList)
  | [], acc => ⟨[], by simp, rfl, by simp⟩
  | o :: l, acc => by
    obtain ⟨tail, h1, h2, h3⟩ := masks_fold l (acc ++ [maskOf acc o.after.toList])
    refine ⟨maskOf acc o.after.toList :: tail, by rw [List.foldl_cons, h1]; simp, by simp [h2], ?_⟩
    intro i o' hi he
    cases i with
    | zero =>
      simp only [List.getElem?_cons_zero, Option.some.injEq] at hi
      subst hi
      simp only [List.getElem?_cons_zero, Option.some.injEq]
      exact maskOf_more (fun e hee hb => by have := he e hee hb; omega)
    | succ i =>
      simp only [List.getElem?_cons_succ] at hi ⊢
      have := h3 i o' hi (fun e hee hb => by have := he e hee hb; simp; omega)
      rw [this]
      simp

theorem masks_spec {ops : List Oper} : (masks ops).length = ops.length ∧
    ∀ i o, ops[i]? = some o → (∀ e ∈ o.after.toList, Region.binds .any e = true → e.on < i) → (masks ops)[i]? = some (maskOf (masks ops) o.after.toList) := by
  obtain ⟨tail, h1, h2, h3⟩ := masks_fold ops []
  simp only [List.nil_append, List.length_nil, Nat.zero_add] at h1 h3
  have hm : masks ops = tail := by rw [masks, h1]
  refine ⟨by rw [hm, h2], ?_⟩
  intro i o hi he
  rw [hm]
  exact h3 i o hi he

theorem foldl_mask {ms : List Nat} : ∀ (es : List Edge) (s k : Nat), (es.foldl (fun s e => if Region.binds .any e then s ||| 2 ^ e.on ||| ms.getD e.on 0 else s) s).testBit k = true →
    s.testBit k = true ∨ ∃ e ∈ es, Region.binds .any e = true ∧ (e.on = k ∨ inMask ms e.on k = true)
  | [], s, k, h => .inl h
  | e :: es, s, k, h => by
    simp only [List.foldl_cons] at h
    rcases foldl_mask es _ k h with h1 | ⟨e', he', hb, h2⟩
    · split at h1
      · rename_i hb
        simp only [Nat.testBit_or, Bool.or_eq_true, Nat.testBit_two_pow] at h1
        rcases h1 with (h1 | h1) | h1
        · exact .inl h1
        · exact .inr ⟨e, by simp, hb, .inl (by simpa using h1)⟩
        · exact .inr ⟨e, by simp, hb, .inr h1⟩
      · exact .inl h1
    · exact .inr ⟨e', by simp [he'], hb, h2⟩

theorem edges_lt {ops : Array Oper} (he : edgesOk ops = true) {i : Nat} {o : Oper} (ho : ops[i]? = some o) : ∀ e ∈ o.after.toList, Region.binds .any e = true → e.on < i := by
  intro e hee hb
  have hi : i < ops.size := (Array.getElem?_eq_some_iff.1 ho).1
  have := List.all_eq_true.1 he i (List.mem_range.2 hi)
  simp only [ho, Option.map_some, Option.getD_some] at this
  have := List.all_eq_true.1 this e hee
  simpa [hb] using this

/-- What is done is closed under the edges, so under all that goes ahead. -/
theorem mask_closed {ops : Array Oper} (he : edgesOk ops = true) {D : Nat → Prop} (hD : ∀ i o, D i → ops[i]? = some o → ∀ e ∈ o.after.toList, Region.binds .any e = true → D e.on) :
    ∀ i, (∀ o, ops[i]? = some o → ∀ e ∈ o.after.toList, Region.binds .any e = true → D e.on) → ∀ k, inMask (masks ops.toList) i k = true → D k := by
  have hedge : ∀ i o, ops[i]? = some o → ∀ e ∈ o.after.toList, Region.binds .any e = true → e.on < i := fun i o ho e hee hb => edges_lt he ho e hee hb
  intro i
  induction i using Nat.strongRecOn with
  | _ i ih =>
    intro hi k hk
    unfold inMask at hk
    cases ho : ops[i]? with
    | none =>
      have hl : (masks ops.toList)[i]? = none := by
        rw [List.getElem?_eq_none_iff, masks_spec.1]
        simpa using ho
      simp [List.getD, hl] at hk
    | some o =>
      have hm := (masks_spec (ops := ops.toList)).2 i o (by simpa using ho) (hedge i o ho)
      simp only [List.getD, hm, Option.getD_some, maskOf] at hk
      rcases foldl_mask _ _ _ hk with h1 | ⟨e, hee, hb, h2⟩
      · simp at h1
      · have hde := hi o ho e hee hb
        rcases h2 with rfl | h2
        · exact hde
        · exact ih e.on (hedge i o ho e hee hb) (fun o' ho' e' he' hb' => hD e.on o' hde ho' e' he' hb') k h2

/-! ### The order that is drawn -/

/-- The operations that are ready. -/
def readyL (ops : Array Oper) (listed : Array Bool) : List Nat :=
  (List.range ops.size).filter fun i => !listed.getD i true && ((ops[i]?).map (·.after.all fun e => !Region.binds .any e || listed.getD e.on false)).getD false

theorem go_succ (ops : Array Oper) (fuel t : Nat) (listed : Array Bool) :
    (∃ i t', i ∈ readyL ops listed ∧ Region.linearise.go .any ops (fuel + 1) t listed [] = i :: Region.linearise.go .any ops fuel t' (listed.setIfInBounds i true) []) ∨
    (readyL ops listed = [] ∧ Region.linearise.go .any ops (fuel + 1) t listed [] = []) := by
  simp only [Region.linearise.go]
  change (∃ i t', i ∈ readyL ops listed ∧ (match (readyL ops listed)[t % (readyL ops listed).length]? with
      | some i => Region.linearise.go .any ops fuel (t / (readyL ops listed).length) (listed.setIfInBounds i true) [i]
      | none => [].reverse) = i :: Region.linearise.go .any ops fuel t' (listed.setIfInBounds i true) []) ∨ (readyL ops listed = [] ∧ (match (readyL ops listed)[t % (readyL ops listed).length]? with
      | some i => Region.linearise.go .any ops fuel (t / (readyL ops listed).length) (listed.setIfInBounds i true) [i]
      | none => [].reverse) = [])
  cases hr : (readyL ops listed)[t % (readyL ops listed).length]? with
  | some i =>
    refine .inl ⟨i, t / (readyL ops listed).length, List.mem_of_getElem? hr, ?_⟩
    simp only
    rw [linearise_go_acc]
    rfl
  | none =>
    refine .inr ⟨?_, rfl⟩
    cases hl : readyL ops listed with
    | nil => rfl
    | cons x xs =>
      rw [hl] at hr
      have hlt : t % (x :: xs).length < (x :: xs).length := Nat.mod_lt _ (by simp)
      simp only [List.getElem?_eq_none_iff] at hr
      omega

theorem ready_spec {ops : Array Oper} {listed : Array Bool} {i : Nat} (h : i ∈ readyL ops listed) :
    ∃ o, ops[i]? = some o ∧ i < ops.size ∧ listed.getD i true = false ∧ ∀ e ∈ o.after.toList, Region.binds .any e = true → listed.getD e.on false = true := by
  simp only [readyL, List.mem_filter, List.mem_range, Bool.and_eq_true, Bool.not_eq_true'] at h
  obtain ⟨hi, h1, h2⟩ := h
  refine ⟨ops[i], Array.getElem?_eq_getElem hi, hi, h1, ?_⟩
  intro e he hb
  rw [Array.getElem?_eq_getElem hi] at h2
  simp only [Option.map_some, Option.getD_some] at h2
  have := Array.all_eq_true_iff_forall_mem.1 h2 e (by simpa using he)
  simpa [hb] using this

/-- If nothing is ready, all is listed. -/
theorem ready_nil {ops : Array Oper} (he : edgesOk ops = true) {listed : Array Bool} (hsz : listed.size = ops.size) (h : readyL ops listed = []) : ∀ i, i < ops.size → listed.getD i false = true := by
  intro i
  induction i using Nat.strongRecOn with
  | _ i ih =>
    intro hi
    cases hl : listed.getD i false with
    | true => rfl
    | false =>
      exfalso
      have : i ∈ readyL ops listed := by
        simp only [readyL, List.mem_filter, List.mem_range, Bool.and_eq_true, Bool.not_eq_true']
        refine ⟨hi, ?_, ?_⟩
        · rw [← hl]
          simp [Array.getD_eq_getD_getElem?, show i < listed.size by omega]
        · rw [Array.getElem?_eq_getElem hi]
          simp only [Option.map_some, Option.getD_some]
          rw [Array.all_eq_true_iff_forall_mem]
          intro e hee
          by_cases hb : Region.binds .any e = true
          · have := edges_lt he (Array.getElem?_eq_getElem hi) e (by simpa using hee) hb
            simp [ih e.on this (by omega)]
          · simp [hb]
      rw [h] at this
      simp at this

end Ab
namespace Ab
open Go

section
variable {P : Program}

/-! ### Operations depend on their operands alone -/

theorem fillA_congr {ρ ρ' : Operand → Value} : ∀ {ps : List (Nat × Nat × Operand)} {cs : List Value}, (∀ p ∈ ps, ρ p.2.2 = ρ' p.2.2) → fillA ρ cs ps = fillA ρ' cs ps
  | [], _, _ => rfl
  | (off, size, x) :: ps, cs, h => by
    have hx := h (off, size, x) (by simp)
    simp only at hx
    simp only [fillA, hx]
    split
    · exact fillA_congr fun p hp => h p (by simp [hp])
    · rfl

theorem oEv_congr {ρ ρ' : Operand → Value} {x : Option Operand} (h : ∀ y ∈ x.toList, ρ y = ρ' y) : oEv ρ x = oEv ρ' x := by
  cases x with
  | none => rfl
  | some y => simp [oEv, h y (by simp)]

theorem pureOp_congr {ρ ρ' : Operand → Value} {a : AOp} (h : ∀ x ∈ a.operands, ρ x = ρ' x) : pureOp ρ a = pureOp ρ' a := by
  cases a <;> simp only [AOp.operands, List.mem_cons, List.not_mem_nil, or_false, forall_eq, forall_eq_or_imp, List.mem_append] at h <;> simp only [pureOp] <;> first
    | rfl
    | (rw [h]; done)
    | (rw [h.1, h.2]; done)
    | (rw [h.1, h.2.1, h.2.2]; done)
    | skip
  · -- mkFunc
    rename_i f first captured
    have h1 : first.map ρ = first.map ρ' := List.map_congr_left fun x hx => h x (.inl hx)
    have h2 : captured.map ρ = captured.map ρ' := List.map_congr_left fun x hx => h x (.inr hx)
    rw [h1, h2]
  · rename_i z ps
    rw [fillA_congr fun p hp => h p.2.2 (List.mem_map_of_mem (f := fun q => q.2.2) hp)]
  · rename_i x lo hi
    rw [h.1, oEv_congr fun y hy => h.2 y (.inl hy), oEv_congr fun y hy => h.2 y (.inr hy)]
  · rename_i n e x lo hi
    rw [h.1, oEv_congr fun y hy => h.2 y (.inl hy), oEv_congr fun y hy => h.2 y (.inr hy)]

theorem readOp_congr {ρ ρ' : Operand → Value} {H : Heap} {a : AOp} (hc : a.cls = .read) (h : ∀ x ∈ a.operands, ρ x = ρ' x) : readOp ρ H a = readOp ρ' H a := by
  cases a <;> simp only [AOp.cls, reduceCtorEq] at hc <;> simp only [AOp.operands, List.mem_cons, List.not_mem_nil, or_false, forall_eq, forall_eq_or_imp, List.mem_append] at h <;> simp only [readOp] <;> first
    | (rw [h]; done)
    | (rw [h.1, h.2]; done)
    | skip
  rename_i e x lo hi mx
  rw [h.1, oEv_congr fun y hy => h.2 y (.inl (.inl hy)), oEv_congr fun y hy => h.2 y (.inl (.inr hy)), oEv_congr fun y hy => h.2 y (.inr hy)]

theorem newOp_congr {ρ ρ' : Operand → Value} {H : Heap} {a : AOp} (h : ∀ x ∈ a.operands, ρ x = ρ' x) : newOp ρ H a = newOp ρ' H a := by
  cases a <;> simp only [AOp.operands, List.mem_cons, List.not_mem_nil, or_false, forall_eq, forall_eq_or_imp, List.mem_append] at h <;> simp only [newOp] <;> first
    | rfl
    | (rw [h]; done)
    | (rw [h.1, h.2]; done)
    | skip
  rename_i n e z ps t
  rw [fillA_congr fun p hp => h p.2.2 (List.mem_map_of_mem (f := fun q => q.2.2) hp)]

theorem newOp_heap {ρ : Operand → Value} {H H' : Heap} {a : AOp} (h : ∀ m, a ≠ .rangeMap m) : newOp ρ H a = newOp ρ H' a := by
  cases a <;> first | rfl | exact absurd rfl (h _)

/-- A read whose block is as it was. -/
theorem readOp_keep {ρ : Operand → Value} {H H' : Heap} {a : AOp} {v : Value} (hc : a.cls = .read) (he : ∀ x, a ≠ .entry x) (h : readOp ρ H a = some v) (hk : ∀ x, a.operands.head? = some x → keepV (ρ x) H H') : readOp ρ H' a = some v := by
  cases a <;> simp only [AOp.cls, reduceCtorEq] at hc
  · -- slice
    rename_i e x lo hi mx
    have := hk x rfl
    simp only [readOp] at h ⊢
    generalize ρ x = y at h this
    unfold sliceV at h ⊢
    cases y <;> try exact h
    rename_i a n c
    cases a with
    | none => exact h
    | some a =>
      obtain ⟨b, o, sp⟩ := a
      cases sp with
      | some _ => exact h
      | none =>
        simp only [keepV] at this
        simp only [this]
        exact h
  · rename_i g x
    have := hk x rfl
    simp only [readOp] at h ⊢
    generalize ρ x = y at h this
    unfold loadA at h ⊢
    cases y <;> try exact h
    rename_i a
    cases a with
    | none => exact h
    | some a =>
      obtain ⟨b, o, sp⟩ := a
      cases sp with
      | some _ => exact h
      | none =>
        simp only [keepV] at this
        simp only [this]
        exact h
  · rename_i kk z ok m k
    have := hk m rfl
    simp only [readOp] at h ⊢
    have hm : mapOf H' (ρ m) = mapOf H (ρ m) := by
      generalize ρ m = y at this
      cases y <;> try rfl
      rename_i r
      cases r with
      | none => rfl
      | some r => simp only [keepV] at this; simp only [mapOf, this]
    rw [hm]; exact h
  · rename_i m
    have := hk m rfl
    simp only [readOp] at h ⊢
    have hm : mapOf H' (ρ m) = mapOf H (ρ m) := by
      generalize ρ m = y at this
      cases y <;> try rfl
      rename_i r
      cases r with
      | none => rfl
      | some r => simp only [keepV] at this; simp only [mapOf, this]
    rw [hm]; exact h
  · exact absurd rfl (he _)

theorem keepV_push {H : Heap} {x : Blk} (hwf : ∀ i, H.size ≤ i → H.get i = none) {ρ : Operand → Value} {a : AOp} {v : Value} (hc : a.cls = .read) (he : ∀ x, a ≠ .entry x) (h : readOp ρ H a = some v) : readOp ρ (H.push x) a = some v := by
  have get : ∀ b y, H.get b = some y → (H.push x).get b = some y := by
    intro b y hb
    rw [Heap.get_push]
    split
    · rename_i e
      rw [hwf b (by omega)] at hb; cases hb
    · exact hb
  cases a <;> simp only [AOp.cls, reduceCtorEq] at hc
  · rename_i e y lo hi mx
    simp only [readOp] at h ⊢
    generalize ρ y = yv at h ⊢
    unfold sliceV at h ⊢
    split at h
    · exact h
    · rename_i b o len cap
      split at h
      · rename_i hcap
        rw [if_pos hcap]
        split at h
        · rename_i ro e' cs hg
          rw [get _ _ hg]
          exact h
        · simp at h
      · rename_i hcap
        rw [if_neg hcap]
        exact h
    · simp at h
  · rename_i g y
    simp only [readOp] at h ⊢
    generalize ρ y = yv at h ⊢
    unfold loadA at h ⊢
    split at h
    · rename_i b o
      split at h
      · rename_i ro e' cs hg
        rw [get _ _ hg]
        exact h
      · simp at h
    · simp at h
  · rename_i kk z ok m k
    simp only [readOp] at h ⊢
    split at h
    · simp at h
    · rename_i hk
      rw [if_neg hk]
      split at h
      · rename_i es c hm
        have : mapOf (H.push x) (ρ m) = some (es, c) := by
          generalize ρ m = mv at hm ⊢
          unfold mapOf at hm ⊢
          split at hm
          · exact hm
          · split at hm
            · rename_i hg; rw [get _ _ hg]; exact hm
            · simp at hm
          · simp at hm
        rw [this]; exact h
      · simp at h
  · rename_i m
    simp only [readOp, Option.map_eq_some_iff] at h ⊢
    obtain ⟨⟨es, c⟩, hm, hv⟩ := h
    refine ⟨(es, c), ?_, hv⟩
    generalize ρ m = mv at hm ⊢
    unfold mapOf at hm ⊢
    split at hm
    · exact hm
    · split at hm
      · rename_i hg; rw [get _ _ hg]; exact hm
      · simp at hm
    · simp at hm
  · exact absurd rfl (he _)

/-! ### The state between two operations of a drawn order -/

structure Fits (P : Program) (n : Nat) (ops : Array Oper) (p : AOper) : Prop where
  ex : ∃ o, ops[p.idx]? = some o ∧ cOp P o.op o.type = some p.op ∧ cGuard ops o.guard = some p.guard ∧ p.op.operands.all (okOperand P.globals.size) = true ∧ p.dst = o.dst
  lt : ∀ t, p.dst = some t → t < n

/-- What an operation that has been carried out here, and is still to come in the machine, has left. -/
def Late (p : AOper) (T : List Value) (H : Heap) (j : Inj) (n0 id : Nat) : Prop :=
  ∃ v, put p.dst v T = T ∧
    if wantB p.guard T = true then
      match p.op.cls with
      | .pure => pureOp (ev T) p.op = some v
      | .read => readOp (ev T) H p.op = some v
      | .new => ∃ x f, newOp (ev T) H p.op = some (x, f) ∧ v = f id ∧ H.get id = some x ∧ id < H.size ∧ n0 ≤ id ∧ j id = none
      | _ => False
    else v = undef

structure DSt (P : Program) (n : Nat) (ops : Array Oper) (l l1 l2 : List AOper) (D : Nat → Bool) (j0 : Inj) (H0 : Heap) (w0 : World) (j : Inj) (H : Heap) (w : World) (T : List Value) (C : Array Value) (K : List Value → Heap → Prop) (ids : Nat → Nat) : Prop where
  eq : l = l1 ++ l2
  len : T.length = n
  size : C.size = n
  notyet : ∀ q ∈ l2, D q.idx = false
  sync : ∀ p ∈ l1, flOf l p.idx = false → D p.idx = true
  closed : ∀ i o, D i = true → ops[i]? = some o → ∀ e ∈ o.after.toList, Region.binds .any e = true → D e.on = true
  wpK : opsWp (Conc P) l2 T H K
  sim : Sim P j H w
  rel : ∀ t, (∀ p ∈ l1, D p.idx = false → p.dst ≠ some t) → VRel j (T.getD t undef) (C.toList.getD t undef)
  late : ∀ p ∈ l1, D p.idx = false → Late p T H j H0.size (ids p.idx)
  apart : ∀ p ∈ l1, ∀ q ∈ l1, D p.idx = false → D q.idx = false → p.op.cls = .new → q.op.cls = .new → wantB p.guard T = true → wantB q.guard T = true → p.idx ≠ q.idx → ids p.idx ≠ ids q.idx
  step : Step j0 H0 w0 j H w

structure DOk (P : Program) (n : Nat) (ops : Array Oper) (l : List AOper) : Prop where
  fits : ∀ p ∈ l, Fits P n ops p
  ok : drawOk ops l = true

theorem pairsOk_pw {ms : List Nat} {fl : Nat → Bool} : ∀ {l : List AOper}, pairsOk ms fl l = true → l.Pairwise fun p q => pairOk ms fl p q = true
  | [], _ => .nil
  | p :: l, h => by
    simp only [pairsOk, Bool.and_eq_true] at h
    exact .cons (fun q hq => List.all_eq_true.1 h.1 q hq) (pairsOk_pw h.2)

theorem pw_or {R : AOper → AOper → Prop} : ∀ {l : List AOper}, l.Pairwise R → ∀ a ∈ l, ∀ b ∈ l, a = b ∨ R a b ∨ R b a
  | [], _, a, ha, _, _ => by simp at ha
  | x :: l, h, a, ha, b, hb => by
    cases h with
    | cons h1 h2 =>
      simp only [List.mem_cons] at ha hb
      rcases ha with rfl | ha <;> rcases hb with rfl | hb
      · exact .inl rfl
      · exact .inr (.inl (h1 b hb))
      · exact .inr (.inr (h1 a ha))
      · exact pw_or h2 a ha b hb

section
variable {n : Nat} {ops : Array Oper} {l : List AOper} (hd : DOk P n ops l)
include hd

theorem DOk.edges : edgesOk ops = true := by
  have := hd.ok
  simp only [drawOk, Bool.and_eq_true] at this
  exact this.2

theorem DOk.pw : l.Pairwise fun p q => pairOk (masks ops.toList) (flOf l) p q = true := by
  have := hd.ok
  simp only [drawOk, Bool.and_eq_true] at this
  exact pairsOk_pw this.1.2

theorem DOk.all {i : Nat} (hi : i < ops.size) : ∃ p ∈ l, p.idx = i := by
  have := hd.ok
  simp only [drawOk, Bool.and_eq_true] at this
  have := List.all_eq_true.1 this.1.1.1 i (List.mem_range.2 hi)
  simpa using this

theorem DOk.uniq {p q : AOper} (hp : p ∈ l) (hq : q ∈ l) (h : p.idx = q.idx) : p = q := by
  have key : ∀ a b : AOper, pairOk (masks ops.toList) (flOf l) a b = true → a.idx ≠ b.idx := by
    intro a b hab
    simp only [pairOk, Bool.and_eq_true, bne_iff_ne, ne_eq] at hab
    exact hab.1.1.1.2
  rcases pw_or hd.pw p hp q hq with h1 | h1 | h1
  · exact h1
  · exact absurd h (key p q h1)
  · exact absurd h.symm (key q p h1)

theorem DOk.fl {p : AOper} (hp : p ∈ l) (h : flOf l p.idx = true) : floats l p = true := by
  simp only [flOf, List.any_eq_true, Bool.and_eq_true, beq_iff_eq] at h
  obtain ⟨o, ho, h1, h2⟩ := h
  rw [← hd.uniq ho hp h1]; exact h2

end

theorem floats_spec {l : List AOper} {p : AOper} (h : floats l p = true) : (p.op.cls = .pure ∨ p.op.cls = .read ∨ p.op.cls = .new) ∧ (∀ m, p.op ≠ .rangeMap m) ∧ (∀ m, p.op ≠ .entry m) ∧ ∃ t, p.dst = some t ∧ t ∉ opTmps p ∧ ∀ q ∈ l, q.idx ≠ p.idx → q.dst ≠ some t := by
  simp only [floats, Bool.and_eq_true, Bool.or_eq_true] at h
  obtain ⟨⟨h1, h2⟩, h3⟩ := h
  refine ⟨?_, ?_, ?_, ?_⟩
  · unfold isCls at h1
    cases hc : p.op.cls <;> simp [hc] at h1 ⊢
  · intro m hm; rw [hm] at h2; simp at h2
  · intro m hm; rw [hm] at h2; simp at h2
  · split at h3
    · simp at h3
    · rename_i t ht
      simp only [Bool.and_eq_true, Bool.not_eq_true', List.contains_eq_mem, decide_eq_false_iff_not, List.all_eq_true, Bool.or_eq_true, beq_iff_eq, bne_iff_ne, ne_eq] at h3
      refine ⟨t, ht, h3.1, fun q hq hne => ?_⟩
      rcases h3.2 q hq with h4 | h4
      · exact absurd h4 hne
      · exact h4.1

theorem ev_agree {T T' : List Value} {p : AOper} (h : ∀ t ∈ opTmps p, T'.getD t undef = T.getD t undef) : (∀ x ∈ p.op.operands, ev T' x = ev T x) ∧ wantB p.guard T' = wantB p.guard T := by
  constructor
  · intro x hx
    cases x with
    | tmp t =>
      refine h t ?_
      simp only [opTmps, List.mem_append, List.mem_filterMap]
      exact .inl ⟨.tmp t, hx, rfl⟩
    | _ => rfl
  · unfold wantB
    cases hg : p.guard with
    | none => rfl
    | some g =>
      obtain ⟨t, b⟩ := g
      simp only
      rw [h t (by simp [opTmps, hg])]

theorem put_other {T : List Value} {d : Option Tmp} {v : Value} {t : Tmp} (h : d ≠ some t) : (put d v T).getD t undef = T.getD t undef := by
  cases d with
  | none => rfl
  | some t' =>
    have : t' ≠ t := fun e => h (by rw [e])
    simp [put, List.getD, List.getElem?_set_ne this]

theorem put_put {T : List Value} {d d' : Option Tmp} {v v' : Value} (h : d = none ∨ d ≠ d') (hp : put d v T = T) : put d v (put d' v' T) = put d' v' T := by
  cases d with
  | none => rfl
  | some t =>
    cases d' with
    | none => exact hp
    | some t' =>
      have : t ≠ t' := by rcases h with h | h; cases h; exact fun e => h (by rw [e])
      simp only [put] at hp ⊢
      rw [List.set_comm _ _ this.symm, hp]

theorem put_self {T : List Value} {d : Option Tmp} {v : Value} : put d v (put d v T) = put d v T := by
  cases d <;> simp [put]

theorem put_length {T : List Value} {d : Option Tmp} {v : Value} : (put d v T).length = T.length := by
  cases d <;> simp [put]

theorem put_get {T : List Value} {t : Tmp} {v : Value} (h : t < T.length) : (put (some t) v T).getD t undef = v := by
  simp [put, List.getD, h]

end
end Ab
namespace Ab
open Go

section
variable {P : Program} {n : Nat} {ops : Array Oper} {l l1 l2 : List AOper} {D : Nat → Bool} {j0 j : Inj} {H0 H : Heap} {w0 w : World} {T : List Value} {C : Array Value} {K : List Value → Heap → Prop} {ids : Nat → Nat}

theorem Step.pushH (hs : Sim P j H w) (h : Step j0 H0 w0 j H w) (x : Blk) : Step j0 H0 w0 j (H.push x) w where
  sub := h.sub
  new := h.new
  evo b s y hb hy hr := by
    have := (hs.dom b s hb).1
    rw [Heap.get_push, if_neg (by omega)] at hy
    exact h.evo b s y hb hy hr
  img := h.img
  mono := by have := h.mono; rw [Heap.size_push]; omega
  keep := h.keep

theorem pw_append {R : AOper → AOper → Prop} {a b : List AOper} (h : (a ++ b).Pairwise R) : ∀ p ∈ a, ∀ q ∈ b, R p q := (List.pairwise_append.1 h).2.2

theorem DSt.pend_float (hd : DOk P n ops l) (h : DSt P n ops l l1 l2 D j0 H0 w0 j H w T C K ids) {p : AOper} (hp : p ∈ l1) (hD : D p.idx = false) : flOf l p.idx = true ∧ floats l p = true := by
  have hl : p ∈ l := by rw [h.eq]; simp [hp]
  cases hf : flOf l p.idx with
  | true => exact ⟨rfl, hd.fl hl hf⟩
  | false => have := h.sync p hp hf; rw [hD] at this; cases this

/-- What is left of an operation that is still to come, behind another one's slot and heap. -/
theorem Late.move {p q : AOper} {v : Value} {H' : Heap} {j' : Inj} {n0 id : Nat} (h : Late p T H j n0 id) (hf : floats l p = true) (hq : ∀ t, q.dst = some t → t ∉ opTmps p) (hdst : p.dst ≠ q.dst)
    (hread : p.op.cls = .read → ∀ v, readOp (ev T) H p.op = some v → readOp (ev T) H' p.op = some v)
    (hnew : p.op.cls = .new → wantB p.guard T = true → id < H.size → j id = none → H'.get id = H.get id ∧ id < H'.size ∧ j' id = none) : Late p (put q.dst v T) H' j' n0 id := by
  obtain ⟨hcl, hrm, _, t, ht, _, _⟩ := floats_spec hf
  have hag : ∀ s ∈ opTmps p, (put q.dst v T).getD s undef = T.getD s undef := fun s hs => put_other fun e => hq s e hs
  obtain ⟨ha1, ha2⟩ := ev_agree (p := p) hag
  obtain ⟨v0, h1, h2⟩ := h
  refine ⟨v0, put_put (.inr hdst) h1, ?_⟩
  rw [ha2]
  split at h2
  · rename_i hw
    rw [if_pos hw]
    rcases hcl with hc | hc | hc
    · rw [hc] at h2 ⊢
      simp only at h2 ⊢
      rw [pureOp_congr ha1]; exact h2
    · rw [hc] at h2 ⊢
      simp only at h2 ⊢
      rw [readOp_congr hc ha1]; exact hread hc _ h2
    · rw [hc] at h2 ⊢
      simp only at h2 ⊢
      obtain ⟨x, f, g1, g2, g3, g4, g5, g6⟩ := h2
      obtain ⟨k1, k2, k3⟩ := hnew hc hw g4 g6
      exact ⟨x, f, by rw [newOp_congr ha1, newOp_heap hrm]; exact g1, g2, by rw [k1]; exact g3, k2, g5, k3⟩
  · rename_i hw
    rw [if_neg hw]; exact h2

/-- (A) An operation that floats is carried out here. -/
theorem DSt.float {q : AOper} (hd : DOk P n ops l) (h : DSt P n ops l l1 (q :: l2) D j0 H0 w0 j H w T C K ids) (hq : flOf l q.idx = true) :
    ∃ T' H' ids', DSt P n ops l (l1 ++ [q]) l2 D j0 H0 w0 j H' w T' C K ids' := by
  have hql : q ∈ l := by rw [h.eq]; simp
  have hDq := h.notyet q (by simp)
  have hfq := hd.fl hql hq
  obtain ⟨hcl, hrm, hen, tq, htq, hself, hun⟩ := floats_spec hfq
  have hlt : tq < T.length := by
    have := (hd.fits q hql).lt tq htq
    rw [h.len]; exact this
  obtain ⟨fl, hfl⟩ : ∃ fl, fl = flOf l := ⟨_, rfl⟩
  have hpw := hd.pw
  rw [← hfl, h.eq] at hpw
  -- what the others ask
  have hother : ∀ p ∈ l1, D p.idx = false → (∀ t, q.dst = some t → t ∉ opTmps p) ∧ p.dst ≠ q.dst := by
    intro p hp hDp
    have hfp := (h.pend_float hd hp hDp).1
    have hpo := pw_append hpw p hp q (by simp)
    simp only [pairOk, Bool.and_eq_true] at hpo
    have h3 := hpo.2
    rw [hfl, hfp, hq, htq] at h3
    simp only [Bool.not_true, Bool.false_or, Bool.and_eq_true, Bool.not_eq_true', List.contains_eq_mem, decide_eq_false_iff_not, bne_iff_ne, ne_eq] at h3
    refine ⟨fun t ht => ?_, fun e => h3.2 (by rw [e, htq])⟩
    rw [htq] at ht; cases ht
    exact h3.1
  have hagq : ∀ v, ∀ s ∈ opTmps q, (put q.dst v T).getD s undef = T.getD s undef := fun v s hs => put_other fun e => by
    rw [htq] at e; cases e; exact hself hs
  -- the general end
  have fin : ∀ (v : Value) (H' : Heap) (ids' : Nat → Nat), opsWp (Conc P) l2 (put q.dst v T) H' K → Sim P j H' w → Step j0 H0 w0 j H' w →
      (∀ p ∈ l1, D p.idx = false → ids' p.idx = ids p.idx ∧ (p.op.cls = .read → ∀ v, readOp (ev T) H p.op = some v → readOp (ev T) H' p.op = some v) ∧
        (p.op.cls = .new → ids p.idx < H.size → H'.get (ids p.idx) = H.get (ids p.idx) ∧ ids p.idx < H'.size)) →
      Late q (put q.dst v T) H' j H0.size (ids' q.idx) →
      (∀ p ∈ l1, D p.idx = false → p.op.cls = .new → q.op.cls = .new → wantB p.guard T = true → wantB q.guard T = true → ids p.idx ≠ ids' q.idx) →
      DSt P n ops l (l1 ++ [q]) l2 D j0 H0 w0 j H' w (put q.dst v T) C K ids' := by
    intro v H' ids' hwp hsim hstep hold hlate hap
    refine ⟨by rw [h.eq]; simp, by rw [put_length]; exact h.len, h.size, fun p hp => h.notyet p (by simp [hp]), ?_, h.closed, hwp, hsim, ?_, ?_, ?_, hstep⟩
    · intro p hp hf
      simp only [List.mem_append, List.mem_singleton] at hp
      rcases hp with hp | rfl
      · exact h.sync p hp hf
      · rw [hq] at hf; cases hf
    · intro t ht
      rw [put_other (ht q (by simp) hDq)]
      exact h.rel t fun p hp => ht p (by simp [hp])
    · intro p hp hDp
      simp only [List.mem_append, List.mem_singleton] at hp
      rcases hp with hp | rfl
      · obtain ⟨o1, o2⟩ := hother p hp hDp
        obtain ⟨k1, k2, k3⟩ := hold p hp hDp
        rw [k1]
        refine (h.late p hp hDp).move (h.pend_float hd hp hDp).2 o1 o2 k2 ?_
        intro hc _ hid hj
        obtain ⟨m1, m2⟩ := k3 hc hid
        exact ⟨m1, m2, hj⟩
      · exact hlate
    · intro p hp p' hp' hDp hDp' hc hc' hw hw' hne
      simp only [List.mem_append, List.mem_singleton] at hp hp'
      have want : ∀ p ∈ l1, D p.idx = false → wantB p.guard (put q.dst v T) = wantB p.guard T := fun p hp hDp => (ev_agree fun s hs => put_other fun e => (hother p hp hDp).1 s e hs).2
      have wantq : wantB q.guard (put q.dst v T) = wantB q.guard T := (ev_agree (hagq v)).2
      rcases hp with hp | rfl <;> rcases hp' with hp' | rfl
      · rw [(hold p hp hDp).1, (hold p' hp' hDp').1]
        rw [want p hp hDp] at hw; rw [want p' hp' hDp'] at hw'
        exact h.apart p hp p' hp' hDp hDp' hc hc' hw hw' hne
      · rw [(hold p hp hDp).1]
        rw [want p hp hDp] at hw; rw [wantq] at hw'
        exact hap p hp hDp hc hc' hw hw'
      · rw [(hold p' hp' hDp').1]
        rw [wantq] at hw; rw [want p' hp' hDp'] at hw'
        exact fun e => hap p' hp' hDp' hc' hc hw' hw e.symm
      · exact absurd rfl hne
  have hwp := h.wpK
  unfold opsWp at hwp
  split at hwp
  · rename_i hw
    have wantq : ∀ v, wantB q.guard (put q.dst v T) = true := fun v => (ev_agree (hagq v)).2.trans hw
    unfold actWp at hwp
    rcases hcl with hc | hc | hc
    · rw [hc] at hwp
      simp only at hwp
      cases hp : pureOp (ev T) q.op with
      | none => rw [hp] at hwp; exact hwp.elim
      | some v =>
        rw [hp] at hwp
        refine ⟨_, _, ids, fin v H ids hwp.2 h.sim h.step (fun p _ _ => ⟨rfl, fun _ _ e => e, fun _ hid => ⟨rfl, hid⟩⟩) ⟨v, put_self, ?_⟩ ?_⟩
        · rw [if_pos (wantq v), hc]
          simp only
          rw [pureOp_congr (ev_agree (hagq v)).1]; exact hp
        · intro p _ _ _ hc' _ _; rw [hc] at hc'; cases hc'
    · rw [hc] at hwp
      simp only at hwp
      cases hp : readOp (ev T) H q.op with
      | none => rw [hp] at hwp; exact hwp.elim
      | some v =>
        rw [hp] at hwp
        refine ⟨_, _, ids, fin v H ids hwp.2 h.sim h.step (fun p _ _ => ⟨rfl, fun _ _ e => e, fun _ hid => ⟨rfl, hid⟩⟩) ⟨v, put_self, ?_⟩ ?_⟩
        · rw [if_pos (wantq v), hc]
          simp only
          rw [readOp_congr hc (ev_agree (hagq v)).1]; exact hp
        · intro p _ _ _ hc' _ _; rw [hc] at hc'; cases hc'
    · rw [hc] at hwp
      simp only at hwp
      split at hwp
      · rename_i x f hn
        refine ⟨_, _, fun i => if i = q.idx then H.size else ids i, fin (f H.size) (H.push x) _ hwp.2 (h.sim.push x) (h.step.pushH h.sim x) ?_ ⟨f H.size, put_self, ?_⟩ ?_⟩
        · intro p hp hDp
          have hpl : p ∈ l := by rw [h.eq]; simp [hp]
          have hne : p.idx ≠ q.idx := by
            have hpo := pw_append hpw p hp q (by simp)
            simp only [pairOk, Bool.and_eq_true, bne_iff_ne, ne_eq] at hpo
            exact hpo.1.1.1.2
          refine ⟨by simp [hne], fun hcr v hv => keepV_push h.sim.wf hcr (floats_spec (h.pend_float hd hp hDp).2).2.2.1 hv, fun _ hid => ⟨?_, by rw [Heap.size_push]; omega⟩⟩
          rw [Heap.get_push, if_neg (by omega)]
        · rw [if_pos (wantq _), hc]
          simp only [if_true]
          refine ⟨x, f, ?_, rfl, by simp [Heap.push], by simp [Heap.push], h.step.mono, h.sim.fresh⟩
          rw [newOp_congr (ev_agree (hagq _)).1, newOp_heap (H' := H) hrm]; exact hn
        · intro p hp hDp hcp _ hwp' _
          simp only [if_true]
          obtain ⟨v0, _, h2⟩ := h.late p hp hDp
          rw [if_pos hwp', hcp] at h2
          simp only at h2
          obtain ⟨_, _, _, _, _, hid, _⟩ := h2
          omega
      · exact hwp.elim
  · rename_i hw
    refine ⟨_, _, ids, fin undef H ids hwp h.sim h.step (fun p _ _ => ⟨rfl, fun _ _ e => e, fun _ hid => ⟨rfl, hid⟩⟩) ⟨undef, put_self, ?_⟩ ?_⟩
    · rw [if_neg (by rw [(ev_agree (hagq undef)).2]; exact hw)]
    · intro p _ _ _ _ _ hwq; exact absurd hwq hw

end
end Ab
namespace Ab
open Go

section
variable {P : Program} {n : Nat} {ops : Array Oper} {l l1 l2 : List AOper} {D : Nat → Bool} {j0 j : Inj} {H0 H : Heap} {w0 w : World} {T : List Value} {C : Array Value} {K : List Value → Heap → Prop} {ids : Nat → Nat}

theorem ev_rel' (hs : Sim P j H w) {x : Operand} (hT : ∀ t, x = .tmp t → VRel j (T.getD t undef) (C.toList.getD t undef)) (hx : okOperand P.globals.size x = true) : VRel j (ev T x) (cev C x) := by
  cases x with
  | tmp t =>
    simp only [ev, cev, getD_toList]
    exact hT t rfl
  | const v => exact okConst_rel j hx
  | global g =>
    simp only [okOperand, decide_eq_true_eq] at hx
    obtain ⟨s, h1, h2, h3⟩ := hs.glob g hx
    have := VRel.ptr (j := j) (b := g) (o := 0) h1
    rw [h2, h3] at this
    exact this
  | func f => exact .func f .nil .nil

theorem opRel' (hs : Sim P j H w) {p : AOper} (hT : ∀ t ∈ opTmps p, VRel j (T.getD t undef) (C.toList.getD t undef)) (ha : p.op.operands.all (okOperand P.globals.size) = true) : OpRel j (ev T) (cev C) p.op := by
  intro x hx
  refine ev_rel' hs (fun t ht => hT t ?_) (List.all_eq_true.1 ha x hx)
  simp only [opTmps, List.mem_append, List.mem_filterMap]
  exact .inl ⟨x, hx, by rw [ht]⟩

theorem want_rel' {ops : Array Oper} {o : Oper} {p : AOper} (hlen : T.length = C.size) (hT : ∀ t ∈ opTmps p, VRel j (T.getD t undef) (C.toList.getD t undef)) (hg : cGuard ops o.guard = some p.guard) : Region.wanted o (yielded ops C) = wantB p.guard T := by
  unfold cGuard at hg
  split at hg
  · rename_i h
    simp only [Option.some.injEq] at hg
    simp [Region.wanted, h, wantB, ← hg]
  · rename_i i b h
    split at hg
    · rename_i t ht
      simp only [Option.some.injEq] at hg
      have hv := hT t (by simp [opTmps, ← hg])
      rw [← hg]
      simp only [Region.wanted, h, wantB, yielded, ht, Option.bind_some]
      have hc : ∀ v, C[t]? = some v → C.toList.getD t undef = v := fun v hv => by simp [hv]
      cases hct : C[t]? with
      | none =>
        have hl : T[t]? = none := by
          rw [List.getElem?_eq_none_iff, hlen]
          rw [Array.getElem?_eq_none_iff] at hct
          simpa using hct
        simp [List.getD, hl, undef]
      | some v =>
        rw [hc v hct] at hv
        generalize T.getD t undef = x at hv ⊢
        cases hv <;> simp
    · simp at hg

theorem Step.late {id : Nat} {j' : Inj} {w' : World} (h : Step j0 H0 w0 j H w) (hl : Lays j w id j' w') (hid : H0.size ≤ id) : Step j0 H0 w0 j' H w' where
  sub := h.sub.trans hl.sub
  new b s hb := by
    rcases hl.new b s hb with h1 | ⟨rfl, _⟩
    · exact h.new b s h1
    · exact .inr hid
  evo b s x hb hx hr := by
    rcases hl.new b s hb with h1 | ⟨_, h2⟩
    · exact h.evo b s x h1 hx hr
    · exact .inl (Nat.le_trans h.keep.size h2)
  img b s hb := by
    rcases hl.new b s hb with h1 | ⟨_, h2⟩
    · exact h.img b s h1
    · exact .inl (Nat.le_trans h.keep.size h2)
  mono := h.mono
  keep := by
    refine ⟨Nat.le_trans h.keep.size hl.size, hl.tape.trans h.keep.tape, hl.os.trans h.keep.os, hl.output.trans h.keep.output, ?_⟩
    intro r hr hn
    rw [hl.same r (Nat.lt_of_lt_of_le hr h.keep.size)]
    exact h.keep.same r hr hn

theorem cput_other {C : Array Value} {d : Option Tmp} {v : Value} {t : Tmp} (h : d ≠ some t) : (cput d v C).toList.getD t undef = C.toList.getD t undef := by
  cases d with
  | none => rfl
  | some t' =>
    have : t' ≠ t := fun e => h (by rw [e])
    simp [cput, List.getD, List.getElem?_set_ne this]

theorem cput_self {C : Array Value} {v : Value} {t : Tmp} (h : t < C.size) : (cput (some t) v C).toList.getD t undef = v := by
  simp [cput, List.getD, h]

theorem new_keepV {ρ : Operand → Value} {a : AOp} {x : Blk} {f : Nat → Value} {id : Nat} {H0 H H' : Heap} (hn : newOp ρ H0 a = some (x, f)) (hk : keepV (f id) H H') : H'.get id = H.get id := by
  cases a <;> simp only [newOp, reduceCtorEq] at hn
  · simp only [Option.some.injEq, Prod.mk.injEq] at hn; obtain ⟨_, rfl⟩ := hn; exact hk
  · simp only [Option.some.injEq, Prod.mk.injEq] at hn; obtain ⟨_, rfl⟩ := hn; exact hk
  · simp only [Option.map_eq_some_iff, Prod.mk.injEq] at hn; obtain ⟨_, _, _, rfl⟩ := hn; exact hk
  · split at hn
    · split at hn
      · simp only [Option.some.injEq, Prod.mk.injEq] at hn; obtain ⟨_, rfl⟩ := hn; exact hk
      · simp at hn
    · simp at hn
  · simp only [Option.some.injEq, Prod.mk.injEq] at hn; obtain ⟨_, rfl⟩ := hn; exact hk
  · (repeat' split at hn) <;> simp only [Option.some.injEq, Prod.mk.injEq, reduceCtorEq] at hn <;> obtain ⟨_, rfl⟩ := hn <;> exact hk

/-- What an operation that is ready asks of those that are pending. -/
theorem DSt.clear (hd : DOk P n ops l) (h : DSt P n ops l l1 l2 D j0 H0 w0 j H w T C K ids) {q : AOper} (hq : q ∈ l) (hr : ∀ o, ops[q.idx]? = some o → ∀ e ∈ o.after.toList, Region.binds .any e = true → D e.on = true)
    (hD : D q.idx = false) : ∀ p ∈ l1, D p.idx = false → p.idx ≠ q.idx → inMask (masks ops.toList) q.idx p.idx = false := by
  intro p hp hDp _
  cases hm : inMask (masks ops.toList) q.idx p.idx with
  | false => rfl
  | true =>
    have := mask_closed hd.edges (D := fun i => D i = true) h.closed q.idx hr p.idx hm
    rw [hDp] at this; cases this

theorem Late.inj {p : AOper} {j' : Inj} {n0 id : Nat} (h : Late p T H j n0 id) (hj : p.op.cls = .new → wantB p.guard T = true → j id = none → j' id = none) : Late p T H j' n0 id := by
  obtain ⟨v, h1, h2⟩ := h
  refine ⟨v, h1, ?_⟩
  split at h2
  · rename_i hw
    rw [if_pos hw]
    revert h2
    cases hc : p.op.cls <;> intro h2 <;> simp only at h2 ⊢ <;> try exact h2
    obtain ⟨x, f, g1, g2, g3, g4, g5, g6⟩ := h2
    exact ⟨x, f, g1, g2, g3, g4, g5, hj hc hw g6⟩
  · rename_i hw
    rw [if_neg hw]; exact h2

/-- (B) A pending operation is carried out in the machine. -/
theorem DSt.behind (hd : DOk P n ops l) (h : DSt P n ops l l1 l2 D j0 H0 w0 j H w T C K ids) {p : AOper} (hp : p ∈ l1) (hD : D p.idx = false)
    (hr : ∀ o, ops[p.idx]? = some o → ∀ e ∈ o.after.toList, Region.binds .any e = true → D e.on = true) {b : FB} {k : List Item} {ds : List Deferred} {cs : List Frame} (rest : List Nat) :
    ∃ j' w' C', DSt P n ops l l1 l2 (fun i => decide (i = p.idx) || D i) j0 H0 w0 j' H w' T C' K ids ∧
      Steps P (lone (Ab.mk b C (.inRegion ops (p.idx :: rest) :: k) ds) cs w) (lone (Ab.mk b C' (.inRegion ops rest :: k) ds) cs w') := by
  have hpl : p ∈ l := by rw [h.eq]; simp [hp]
  have hfp := h.pend_float hd hp hD
  obtain ⟨hcl, hrm, hen, tp, htp, hself, hun⟩ := floats_spec hfp.2
  obtain ⟨fl, hfl⟩ : ∃ fl, fl = flOf l := ⟨_, rfl⟩
  have hpw := hd.pw
  rw [← hfl] at hpw
  obtain ⟨⟨o, ho, hcop, hcg, hall, hdst⟩, hlt⟩ := hd.fits p hpl
  have htn : tp < n := hlt tp htp
  -- the others
  have hoth : ∀ q ∈ l1, D q.idx = false → q ≠ p → (∀ t, q.dst = some t → t ∉ opTmps p) ∧ q.dst ≠ p.dst := by
    intro q hq hDq hne
    have hql : q ∈ l := by rw [h.eq]; simp [hq]
    have hfq := (h.pend_float hd hq hDq).1
    have hidx : q.idx ≠ p.idx := fun e => hne (hd.uniq hql hpl e)
    have hm := h.clear hd hpl hr hD q hq hDq hidx
    rcases pw_or hpw q hql p hpl with he | he | he
    · exact absurd he hne
    · simp only [pairOk, Bool.and_eq_true] at he
      have h3 := he.1.2
      rw [hfl, hfq, hm] at h3
      simp only [Bool.not_true, Bool.false_or, Bool.and_eq_true] at h3
      have h4 := h3.1
      simp only [apartOps, Bool.and_eq_true] at h4
      have h5 := h4.1
      constructor
      · intro t ht
        rw [ht] at h5
        simp only [Bool.and_eq_true, Bool.not_eq_true', List.contains_eq_mem, decide_eq_false_iff_not] at h5
        exact h5.1
      · intro e
        rw [e, htp] at h5
        simp [htp] at h5
    · simp only [pairOk, Bool.and_eq_true] at he
      have h3 := he.2
      rw [hfl, hfq, hfp.1] at h3
      simp only [Bool.not_true, Bool.false_or] at h3
      constructor
      · intro t ht
        rw [ht] at h3
        simp only [Bool.and_eq_true, Bool.not_eq_true', List.contains_eq_mem, decide_eq_false_iff_not] at h3
        exact h3.1
      · intro e
        rw [e, htp] at h3
        simp [htp] at h3
  have hT : ∀ t ∈ opTmps p, VRel j (T.getD t undef) (C.toList.getD t undef) := by
    intro t ht
    refine h.rel t fun q hq hDq e => ?_
    by_cases hqp : q = p
    · subst hqp
      rw [htp] at e; cases e
      exact hself ht
    · exact (hoth q hq hDq hqp).1 t e ht
  have hrel := opRel' h.sim hT hall
  have hwant := want_rel' (by rw [h.len, h.size]) hT hcg
  obtain ⟨v, hput, hlate⟩ := h.late p hp hD
  have hTv : T.getD tp undef = v := by
    rw [htp] at hput
    rw [← hput]
    exact put_get (by rw [h.len]; exact htn)
  have fin : ∀ (j' : Inj) (w' : World) (v' : Value), j.le j' → Sim P j' H w' → Step j0 H0 w0 j' H w' → VRel j' v v' →
      (∀ q ∈ l1, D q.idx = false → q ≠ p → q.op.cls = .new → wantB q.guard T = true → j (ids q.idx) = none → j' (ids q.idx) = none) →
      DSt P n ops l l1 l2 (fun i => decide (i = p.idx) || D i) j0 H0 w0 j' H w' T (cput p.dst v' C) K ids := by
    intro j' w' v' hle hsim hstep hv hnone
    have hDf : ∀ i, (decide (i = p.idx) || D i) = false → D i = false ∧ i ≠ p.idx := by
      intro i hi
      simp only [Bool.or_eq_false_iff, decide_eq_false_iff_not] at hi
      exact ⟨hi.2, hi.1⟩
    refine ⟨h.eq, h.len, by rw [cput_size]; exact h.size, ?_, ?_, ?_, h.wpK, hsim, ?_, ?_, ?_, hstep⟩
    · intro q hq
      have hpo := pw_append (by rw [h.eq] at hpw; exact hpw) p hp q hq
      simp only [pairOk, Bool.and_eq_true, bne_iff_ne, ne_eq] at hpo
      have h1 := hpo.1.1.1.2
      simp only [h.notyet q hq, Bool.or_false, decide_eq_false_iff_not]
      exact fun e => h1 (Eq.symm e)
    · intro q hq hf; simp [h.sync q hq hf]
    · intro i o' hi ho' e he hb
      simp only [Bool.or_eq_true, decide_eq_true_eq] at hi ⊢
      rcases hi with rfl | hi
      · exact .inr (hr o' ho' e he hb)
      · exact .inr (h.closed i o' hi ho' e he hb)
    · intro t ht
      by_cases htt : t = tp
      · subst htt
        rw [hTv, htp, cput_self (by rw [h.size]; exact htn)]
        exact hv
      · have hne : p.dst ≠ some t := by rw [htp]; simpa using fun e => htt e.symm
        rw [cput_other hne]
        refine (h.rel t fun q hq hDq => ?_).mono hle
        by_cases hqp : q = p
        · subst hqp; exact hne
        · have hql : q ∈ l := by rw [h.eq]; simp [hq]
          refine ht q hq ?_
          simp only [hDq, Bool.or_false, decide_eq_false_iff_not]
          exact fun e => hqp (hd.uniq hql hpl e)
    · intro q hq hDq
      obtain ⟨hDq', hqi⟩ := hDf _ hDq
      exact (h.late q hq hDq').inj (fun hc hw hj => hnone q hq hDq' (fun e => hqi (by rw [e])) hc hw hj)
    · intro q hq q' hq' hDq hDq'
      exact h.apart q hq q' hq' (hDf _ hDq).1 (hDf _ hDq').1
  have hdef := cOp_defer hcop
  rw [hdst] at fin
  split at hlate
  · rename_i hw
    rcases hcl with hc | hc | hc
    · rw [hc] at hlate
      obtain ⟨v', h1, h2⟩ := pure_sound (w := w) hcop hlate hrel
      exact ⟨j, w, _, fin j w v' (Inj.le.refl j) h.sim h.step h2 (fun _ _ _ _ _ _ e => e), Steps.one (st_value ho (hwant.trans hw) hdef h1)⟩
    · rw [hc] at hlate
      obtain ⟨v', h1, h2⟩ := read_sound h.sim hcop hc hlate hrel
      exact ⟨j, w, _, fin j w v' (Inj.le.refl j) h.sim h.step h2 (fun _ _ _ _ _ _ e => e), Steps.one (st_value ho (hwant.trans hw) hdef h1)⟩
    · rw [hc] at hlate
      obtain ⟨x, f, g1, g2, g3, g4, g5, g6⟩ := hlate
      obtain ⟨v', w', j', k1, k2, k3, k4⟩ := new_sound h.sim hcop hc g1 hrel g6 g3 g4
      refine ⟨j', w', _, fin j' w' v' k4.sub k2 (h.step.late k4 g5) (g2 ▸ k3) ?_, Steps.one (st_value ho (hwant.trans hw) hdef k1)⟩
      intro q hq hDq hqp hcq hwq hj
      have hql : q ∈ l := by rw [h.eq]; simp [hq]
      cases hj' : j' (ids q.idx) with
      | none => rfl
      | some s =>
        rcases k4.new _ _ hj' with h1 | ⟨h1, _⟩
        · rw [hj] at h1; cases h1
        · exact absurd h1 (h.apart q hq p hp hDq hD hcq hc hwq hw (fun e => hqp (hd.uniq hql hpl e)))
  · rename_i hw
    subst hlate
    have hstep := st_op_skip (P := P) (b := b) (C := C) (k := k) (ds := ds) (cs := cs) (w := w) (ops := ops) (i := p.idx) (rest := rest) (by rw [ho]; simp only [Option.map_some, Option.getD_some]; rw [hwant]; simpa using hw)
    rw [ho] at hstep
    exact ⟨j, w, _, fin j w undef (Inj.le.refl j) h.sim h.step (VRel.undef j) (fun _ _ _ _ _ _ e => e), Steps.one hstep⟩

end
end Ab
namespace Ab
open Go

section
variable {P : Program} {n : Nat} {ops : Array Oper} {l l1 l2 : List AOper} {D : Nat → Bool} {j0 j : Inj} {H0 H : Heap} {w0 w : World} {T : List Value} {C : Array Value} {K : List Value → Heap → Prop} {ids : Nat → Nat}

theorem okConst_keepV {v : Value} {H H' : Heap} (h : okConst v = true) : keepV v H H' := by
  unfold okConst at h
  split at h
  · trivial
  · trivial
  · unfold isScalarCell at h
    split at h <;> first | trivial | simp at h

theorem keeps_mem {T : List Value} {H H' : Heap} : ∀ {l : List Operand} {x : Operand}, keeps l T H H' → l.any (sameOperand x) = true → keepV (ev T x) H H'
  | [], _, _, h => by simp at h
  | y :: l, x, hk, h => by
    simp only [List.any_cons, Bool.or_eq_true] at h
    rcases h with h | h
    · have : x = y := by
        unfold sameOperand at h
        split at h
        · simp only [beq_iff_eq] at h; rw [h]
        · simp only [beq_iff_eq] at h; rw [h]
        · cases h
      rw [this]; exact hk.1
    · exact keeps_mem hk.2 h

/-- (C) The operation that is next here, and does not float, is carried out in the machine. -/
theorem DSt.ahead (hd : DOk P n ops l) {q : AOper} (h : DSt P n ops l l1 (q :: l2) D j0 H0 w0 j H w T C K ids) (hq : flOf l q.idx = false)
    (hr : ∀ o, ops[q.idx]? = some o → ∀ e ∈ o.after.toList, Region.binds .any e = true → D e.on = true) {b : FB} {k : List Item} {ds : List Deferred} {cs : List Frame} (rest : List Nat) :
    ∃ j' H' w' T' C', DSt P n ops l (l1 ++ [q]) l2 (fun i => decide (i = q.idx) || D i) j0 H0 w0 j' H' w' T' C' K ids ∧
      Steps P (lone (Ab.mk b C (.inRegion ops (q.idx :: rest) :: k) ds) cs w) (lone (Ab.mk b C' (.inRegion ops rest :: k) ds) cs w') := by
  have hql : q ∈ l := by rw [h.eq]; simp
  have hDq := h.notyet q (by simp)
  obtain ⟨fl, hfl⟩ : ∃ fl, fl = flOf l := ⟨_, rfl⟩
  have hpw := hd.pw
  rw [← hfl, h.eq] at hpw
  obtain ⟨⟨o, ho, hcop, hcg, hall, hdst⟩, hlt⟩ := hd.fits q hql
  have hoth : ∀ p ∈ l1, D p.idx = false → (∀ t, p.dst = some t → t ∉ opTmps q ∧ q.dst ≠ some t) ∧ (∀ t, q.dst = some t → t ∉ opTmps p) ∧ keptOps p q = true := by
    intro p hp hDp
    have hfp := (h.pend_float hd hp hDp).1
    have hpo := pw_append hpw p hp q (by simp)
    simp only [pairOk, Bool.and_eq_true, bne_iff_ne, ne_eq] at hpo
    have hm := h.clear hd hql hr hDq p hp hDp hpo.1.1.1.2
    have h3 := hpo.1.2
    rw [hfl, hfp, hm, hq] at h3
    simp only [Bool.not_true, Bool.false_or, Bool.and_eq_true, apartOps] at h3
    refine ⟨fun t ht => ?_, fun t ht => ?_, h3.2⟩
    · have h4 := h3.1.1
      rw [ht] at h4
      simpa using h4
    · have h4 := h3.1.2
      rw [ht] at h4
      simpa using h4
  have hT : ∀ t ∈ opTmps q, VRel j (T.getD t undef) (C.toList.getD t undef) := fun t ht => h.rel t fun p hp hDp e => ((hoth p hp hDp).1 t e).1 ht
  have hrel := opRel' h.sim hT hall
  have hwant := want_rel' (by rw [h.len, h.size]) hT hcg
  have fin : ∀ (j' : Inj) (H' : Heap) (w' : World) (v v' : Value), opsWp (Conc P) l2 (put q.dst v T) H' K → Sim P j' H' w' → Step j H w j' H' w' → VRel j' v v' → keeps q.pend T H H' →
      DSt P n ops l (l1 ++ [q]) l2 (fun i => decide (i = q.idx) || D i) j0 H0 w0 j' H' w' (put q.dst v T) (cput q.dst v' C) K ids := by
    intro j' H' w' v v' hwp hsim hstep hv hkeep
    have hDf : ∀ i, (decide (i = q.idx) || D i) = false → D i = false ∧ i ≠ q.idx := by
      intro i hi
      simp only [Bool.or_eq_false_iff, decide_eq_false_iff_not] at hi
      exact ⟨hi.2, hi.1⟩
    have hmem : ∀ p ∈ l1 ++ [q], (decide (p.idx = q.idx) || D p.idx) = false → p ∈ l1 ∧ D p.idx = false := by
      intro p hp hi
      obtain ⟨h1, h2⟩ := hDf _ hi
      simp only [List.mem_append, List.mem_singleton] at hp
      rcases hp with hp | rfl
      · exact ⟨hp, h1⟩
      · exact absurd rfl h2
    have want : ∀ p ∈ l1, D p.idx = false → wantB p.guard (put q.dst v T) = wantB p.guard T := fun p hp hDp => (ev_agree fun s hs => put_other fun e => (hoth p hp hDp).2.1 s e hs).2
    refine ⟨by rw [h.eq]; simp, by rw [put_length]; exact h.len, by rw [cput_size]; exact h.size, ?_, ?_, ?_, hwp, hsim, ?_, ?_, ?_, h.step.trans hstep⟩
    · intro p hp
      have hpo := pw_append (a := l1 ++ [q]) (b := l2) (by simpa using hpw) q (by simp) p hp
      simp only [pairOk, Bool.and_eq_true, bne_iff_ne, ne_eq] at hpo
      have h1 := hpo.1.1.1.2
      simp only [h.notyet p (by simp [hp]), Bool.or_false, decide_eq_false_iff_not]
      exact fun e => h1 (Eq.symm e)
    · intro p hp hf
      simp only [List.mem_append, List.mem_singleton] at hp
      rcases hp with hp | rfl
      · simp [h.sync p hp hf]
      · simp
    · intro i o' hi ho' e he hb
      simp only [Bool.or_eq_true, decide_eq_true_eq] at hi ⊢
      rcases hi with rfl | hi
      · exact .inr (hr o' ho' e he hb)
      · exact .inr (h.closed i o' hi ho' e he hb)
    · intro t ht
      by_cases htt : q.dst = some t
      · have htn := hlt t htt
        rw [htt, put_get (by rw [h.len]; exact htn), cput_self (by rw [h.size]; exact htn)]
        exact hv
      · rw [put_other htt, cput_other htt]
        refine (h.rel t fun p hp hDp => ?_).mono hstep.sub
        refine ht p (by simp [hp]) ?_
        simp only [hDp, Bool.or_false, decide_eq_false_iff_not]
        intro e
        rw [e] at hDp
        have hpo := pw_append hpw p hp q (by simp)
        simp only [pairOk, Bool.and_eq_true, bne_iff_ne, ne_eq] at hpo
        exact hpo.1.1.1.2 e
    · intro p hp hi
      obtain ⟨hp1, hDp⟩ := hmem p hp hi
      obtain ⟨o1, o2, o3⟩ := hoth p hp1 hDp
      have hpl : p ∈ l := by rw [h.eq]; simp [hp1]
      have hlate := h.late p hp1 hDp
      have hfp := (h.pend_float hd hp1 hDp).2
      obtain ⟨hcl, hrm, hen, tp, htp, _, _⟩ := floats_spec hfp
      obtain ⟨⟨_, _, _, _, hallp, _⟩, hltp⟩ := hd.fits p hpl
      simp only [keptOps, Bool.and_eq_true, Bool.or_eq_true, Bool.not_eq_true'] at o3
      refine hlate.move hfp o2 (fun e => (o1 tp htp).2 (by rw [← e, htp])) ?_ ?_
      · intro hc v0 hv0
        refine readOp_keep hc hen hv0 fun x hx => ?_
        rcases o3.1 with h4 | h4
        · simp [isCls, hc] at h4
        · rw [hx] at h4
          have hxok : okOperand P.globals.size x = true := List.all_eq_true.1 hallp x (List.mem_of_mem_head? hx)
          cases x with
          | const c => exact okConst_keepV hxok
          | func f => trivial
          | tmp t => exact keeps_mem hkeep h4
          | global g => exact keeps_mem hkeep h4
      · intro hc hw hid hj
        obtain ⟨v0, h5, h6⟩ := hlate
        rw [if_pos hw, hc] at h6
        simp only at h6
        obtain ⟨x, f, g1, g2, g3, g4, g5, g6⟩ := h6
        have hTv : T.getD tp undef = v0 := by
          rw [htp] at h5
          rw [← h5]
          exact put_get (by rw [h.len]; exact hltp tp htp)
        refine ⟨?_, Nat.lt_of_lt_of_le hid hstep.mono, ?_⟩
        · rcases o3.2 with h4 | h4
          · simp [isCls, hc] at h4
          · rw [htp] at h4
            simp only at h4
            have := keeps_mem hkeep h4
            simp only [ev, hTv, g2] at this
            exact new_keepV g1 this
        · cases hj' : j' (ids p.idx) with
          | none => rfl
          | some s =>
            rcases hstep.new _ _ hj' with h7 | h7
            · rw [hj] at h7; cases h7
            · omega
    · intro p hp p' hp' hi hi' hc hc' hw hw'
      obtain ⟨hp1, hDp⟩ := hmem p hp hi
      obtain ⟨hp1', hDp'⟩ := hmem p' hp' hi'
      rw [want p hp1 hDp] at hw; rw [want p' hp1' hDp'] at hw'
      exact h.apart p hp1 p' hp1' hDp hDp' hc hc' hw hw'
  have hwp := h.wpK
  unfold opsWp at hwp
  rw [hdst] at fin
  rw [hdst] at hwp
  split at hwp
  · rename_i hw
    obtain ⟨v, H1, j1, v', w1, hK, hv, hs1, hst, hsteps⟩ := act_sound (b := b) (k := k) (ds := ds) (cs := cs) (rest := rest) h.sim ho (hwant.trans hw) hcop hrel hwp
    exact ⟨j1, H1, w1, _, _, fin j1 H1 w1 v v' hK.2 hs1 hst hv hK.1, hsteps⟩
  · rename_i hw
    have hstep := st_op_skip (P := P) (b := b) (C := C) (k := k) (ds := ds) (cs := cs) (w := w) (ops := ops) (i := q.idx) (rest := rest) (by rw [ho]; simp only [Option.map_some, Option.getD_some]; rw [hwant]; simpa using hw)
    rw [ho] at hstep
    refine ⟨j, H, w, _, _, fin j H w undef undef hwp h.sim (Step.refl _ _ _) (VRel.undef j) ?_, Steps.one hstep⟩
    clear hstep fin
    generalize q.pend = pe
    induction pe with
    | nil => trivial
    | cons x pe ih => exact ⟨by unfold keepV; split <;> trivial, ih⟩

/-- All that floats is carried out here as soon as it is next. -/
theorem DSt.floatAll (hd : DOk P n ops l) : ∀ {l2 l1 : List AOper} {H : Heap} {T : List Value} {ids : Nat → Nat}, DSt P n ops l l1 l2 D j0 H0 w0 j H w T C K ids →
    ∃ l1' l2' T' H' ids', DSt P n ops l l1' l2' D j0 H0 w0 j H' w T' C K ids' ∧ ∀ q l3, l2' = q :: l3 → flOf l q.idx = false
  | [], l1, H, T, ids, h => ⟨l1, [], T, H, ids, h, by simp⟩
  | q :: l2, l1, H, T, ids, h => by
    cases hq : flOf l q.idx with
    | true =>
      obtain ⟨T', H', ids', h'⟩ := h.float hd hq
      exact h'.floatAll hd
    | false => exact ⟨l1, q :: l2, T, H, ids, h, fun q' l3 e => by cases e; exact hq⟩

theorem draw_go (hd : DOk P n ops l) {b : FB} {k : List Item} {ds : List Deferred} {cs : List Frame} : ∀ (fuel t : Nat) (listed : Array Bool) {l1 l2 : List AOper} {j : Inj} {H : Heap} {w : World} {T : List Value} {C : Array Value} {ids : Nat → Nat}, listed.size = ops.size →
    DSt P n ops l l1 l2 (fun i => listed.getD i false) j0 H0 w0 j H w T C K ids → (∀ q l3, l2 = q :: l3 → flOf l q.idx = false) → listed.toList.count false ≤ fuel →
    ∃ T' H' j' C' w', K T' H' ∧ Sim P j' H' w' ∧ VsRel j' T' C'.toList ∧ C'.size = n ∧ Step j0 H0 w0 j' H' w' ∧
      Steps P (lone (Ab.mk b C (.inRegion ops (Region.linearise.go .any ops fuel t listed []) :: k) ds) cs w) (lone (Ab.mk b C' k ds) cs w') := by
  intro fuel
  have done : ∀ (listed : Array Bool) {l1 l2 : List AOper} {j : Inj} {H : Heap} {w : World} {T : List Value} {C : Array Value} {ids : Nat → Nat},
      DSt P n ops l l1 l2 (fun i => listed.getD i false) j0 H0 w0 j H w T C K ids → (∀ i, i < ops.size → listed.getD i false = true) →
      ∃ T' H' j' C' w', K T' H' ∧ Sim P j' H' w' ∧ VsRel j' T' C'.toList ∧ C'.size = n ∧ Step j0 H0 w0 j' H' w' ∧
        Steps P (lone (Ab.mk b C (.inRegion ops [] :: k) ds) cs w) (lone (Ab.mk b C' k ds) cs w') := by
    intro listed l1 l2 j H w T C ids h hall
    have hidx : ∀ p ∈ l, p.idx < ops.size := by
      intro p hp
      obtain ⟨⟨o, ho, _⟩, _⟩ := hd.fits p hp
      exact (Array.getElem?_eq_some_iff.1 ho).1
    cases l2 with
    | cons q l2 =>
      have h1 := h.notyet q (by simp)
      have hql : q ∈ l := by rw [h.eq]; simp
      simp only [hall _ (hidx q hql)] at h1
      cases h1
    | nil =>
      refine ⟨T, H, j, C, w, h.wpK, h.sim, ?_, h.size, h.step, Steps.one st_region_end⟩
      refine VsRel.of_get (by rw [h.len, Array.length_toList, h.size]) fun i v v' hv hv' => ?_
      have := h.rel i fun p hp hDp => by
        have hpl : p ∈ l := by rw [h.eq]; simp [hp]
        simp only [hall _ (hidx p hpl)] at hDp
        cases hDp
      simpa [List.getD, hv, hv'] using this
  induction fuel with
  | zero =>
    intro t listed l1 l2 j H w T C ids hsz h _ hc
    refine done listed h fun i hi => ?_
    have h0 : false ∉ listed.toList := List.count_eq_zero.1 (by omega)
    have hlt : i < listed.size := by omega
    cases hl : listed[i] with
    | true => simp [Array.getD_eq_getD_getElem?, Array.getElem?_eq_getElem hlt, hl]
    | false => exact absurd (by rw [← hl]; simp) h0
  | succ fuel ih =>
    intro t listed l1 l2 j H w T C ids hsz h hhead hc
    rcases go_succ ops fuel t listed with ⟨i, t', hi, hgo⟩ | ⟨hnil, hgo⟩
    · rw [hgo]
      obtain ⟨o, ho, hlt, hlist, hedge⟩ := ready_spec hi
      have hli : i < listed.size := by omega
      have hlf : listed[i] = false := by simpa [Array.getD_eq_getD_getElem?, Array.getElem?_eq_getElem hli] using hlist
      have hD : (fun i => listed.getD i false) i = false := by simp [Array.getD_eq_getD_getElem?, Array.getElem?_eq_getElem hli, hlf]
      have hsz' : (listed.setIfInBounds i true).size = ops.size := by simp [hsz]
      have hcount : (listed.setIfInBounds i true).toList.count false ≤ fuel := by
        have hl' : i < listed.toList.length := by simpa using hli
        have hpos : 0 < listed.toList.count false := List.count_pos_iff.2 (by rw [← hlf]; simp)
        rw [Array.toList_setIfInBounds, List.count_set hl']
        simp [hlf]
        simp at hc
        omega
      have hDset : (fun x => decide (x = i) || listed.getD x false) = fun x => (listed.setIfInBounds i true).getD x false := by
        funext x
        by_cases hx : x = i
        · subst hx; simp [Array.getD_eq_getD_getElem?, hli]
        · simp [Array.getD_eq_getD_getElem?, hx, Array.getElem?_setIfInBounds_ne (Ne.symm hx)]
      obtain ⟨p, hp, rfl⟩ := hd.all hlt
      have hr : ∀ o, ops[p.idx]? = some o → ∀ e ∈ o.after.toList, Region.binds .any e = true → (fun i => listed.getD i false) e.on = true := by
        intro o' ho' e he hb
        rw [ho] at ho'; cases ho'
        exact hedge e he hb
      have hp' := hp
      rw [h.eq, List.mem_append] at hp'
      rcases hp' with hp1 | hp2
      · obtain ⟨j', w', C', h', hst⟩ := h.behind hd hp1 hD hr (b := b) (k := k) (ds := ds) (cs := cs) (Region.linearise.go .any ops fuel t' (listed.setIfInBounds p.idx true) [])
        simp only [hDset] at h'
        obtain ⟨T2, H2, j2, C2, w2, k1, k2, k3, k4, k5, k6⟩ := ih t' _ hsz' h' hhead hcount
        exact ⟨T2, H2, j2, C2, w2, k1, k2, k3, k4, k5, hst.trans k6⟩
      · cases l2 with
        | nil => simp at hp2
        | cons q l3 =>
          have hqf := hhead q l3 rfl
          have hpq : p = q := by
            rcases List.mem_cons.1 hp2 with e | hp3
            · exact e
            · exfalso
              obtain ⟨fl, hfl⟩ : ∃ fl, fl = flOf l := ⟨_, rfl⟩
              have hpw := hd.pw
              rw [← hfl, h.eq] at hpw
              have hpo := pw_append (a := l1 ++ [q]) (b := l3) (by simpa using hpw) q (by simp) p hp3
              simp only [pairOk, Bool.and_eq_true] at hpo
              have h1 := hpo.1.1.2
              rw [hfl, hqf, Bool.false_or] at h1
              have := mask_closed hd.edges (D := fun i => (fun i => listed.getD i false) i = true) h.closed p.idx hr q.idx h1
              have h9 := h.notyet q (by simp)
              exact absurd (this.symm.trans h9) (by simp)
          subst hpq
          obtain ⟨j', H', w', T', C', h', hst⟩ := h.ahead hd hqf hr (b := b) (k := k) (ds := ds) (cs := cs) (Region.linearise.go .any ops fuel t' (listed.setIfInBounds p.idx true) [])
          simp only [hDset] at h'
          obtain ⟨l1', l2', T1, H1, ids1, h1, hh1⟩ := h'.floatAll hd
          obtain ⟨T2, H2, j2, C2, w2, k1, k2, k3, k4, k5, k6⟩ := ih t' _ hsz' h1 hh1 hcount
          exact ⟨T2, H2, j2, C2, w2, k1, k2, k3, k4, k5, hst.trans k6⟩
    · rw [hgo]
      exact done listed h (ready_nil hd.edges hsz hnil)

theorem withPend_mem {ms : List Nat} {fl : Nat → Bool} : ∀ {l before : List AOper} {p : AOper}, p ∈ withPend ms fl before l → ∃ p0 ∈ l, ∃ pe, p = { p0 with pend := pe }
  | [], _, _, h => by simp [withPend] at h
  | o :: l, before, p, h => by
    simp only [withPend, List.mem_cons] at h
    rcases h with rfl | h
    · exact ⟨o, by simp, _, rfl⟩
    · obtain ⟨p0, h1, pe, h2⟩ := withPend_mem h
      exact ⟨p0, by simp [h1], pe, h2⟩

theorem cOpers_mem {ops : Array Oper} : ∀ {is : List Nat} {l : List AOper} {p : AOper}, cOpers P n ops is = some l → p ∈ l → ∃ i, cOper P n ops i = some p
  | [], l, p, h, hp => by simp only [cOpers, Option.some.injEq] at h; subst h; simp at hp
  | i :: is, l, p, h, hp => by
    simp only [cOpers] at h
    split at h
    · rename_i o os h1 h2
      simp only [Option.some.injEq] at h; subst h
      simp only [List.mem_cons] at hp
      rcases hp with rfl | hp
      · exact ⟨i, h1⟩
      · exact cOpers_mem h2 hp
    · simp at h

theorem cDraw_ok (h : cDraw P n ops = some l) : DOk P n ops l := by
  unfold cDraw at h
  split at h
  · simp at h
  · rename_i l0 h0
    simp only at h
    split at h
    · simp at h
    · rename_i l1 h1
      split at h
      · rename_i hok
        simp only [Option.some.injEq] at h
        subst h
        refine ⟨fun p hp => ?_, hok⟩
        obtain ⟨p0, hp0, pe, rfl⟩ := withPend_mem hp
        obtain ⟨i, hi⟩ := cOpers_mem h1 hp0
        obtain ⟨o, h1, h2, h3, h4, h5, h6, h7, h8⟩ := cOper_some hi
        exact ⟨⟨o, by simp only [h6]; exact h1, h2, h3, h4, h5⟩, h8⟩
      · simp at h

/-- A REGION THAT DRAWS ITS ORDER. -/
theorem draw_sound (hc : cDraw P n ops = some l) (h : opsWp (Conc P) l T H K) (hs : Sim P j H w) (hT : VsRel j T C.toList) (hn : C.size = n) {b : FB} {k : List Item} {ds : List Deferred} {cs : List Frame} (t : Nat) :
    ∃ T' H' j' C' w', K T' H' ∧ Sim P j' H' w' ∧ VsRel j' T' C'.toList ∧ C'.size = n ∧ Step j H w j' H' w' ∧
      Steps P (lone (Ab.mk b C (.inRegion ops (Region.schedule true ops t) :: k) ds) cs w) (lone (Ab.mk b C' k ds) cs w') := by
  have hd := cDraw_ok hc
  have hrep : ∀ i, (Array.replicate ops.size false).getD i false = false := by
    intro i
    rw [Array.getD_eq_getD_getElem?, Array.getElem?_replicate]
    split <;> rfl
  have h0 : DSt P n ops l [] l (fun i => (Array.replicate ops.size false).getD i false) j H w j H w T C K (fun _ => 0) := by
    refine ⟨rfl, by rw [hT.length, Array.length_toList, hn], hn, ?_, by simp, ?_, h, hs, fun t _ => hT.getD t, by simp, by simp, Step.refl _ _ _⟩
    · intro q _; exact hrep _
    · intro i o hi; rw [hrep] at hi; cases hi
  obtain ⟨l1, l2, T1, H1, ids1, h1, hh⟩ := h0.floatAll hd
  have := draw_go hd (b := b) (k := k) (ds := ds) (cs := cs) ops.size t (Array.replicate ops.size false) (by simp) h1 hh (by simp)
  simpa [Region.schedule, Region.linearise] using this

end
end Ab
