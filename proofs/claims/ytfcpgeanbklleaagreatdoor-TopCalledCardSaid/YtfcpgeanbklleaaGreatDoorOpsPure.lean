/- Operations that read no memory: the model's run of related operands gives the related value. -/
import Derived.Test.YtfcpgeanbklleaaGreatDoorRel
import Derived.Laws.StructEq
import Derived.ChangeKeysEq
set_option linter.unusedSectionVars false
set_option linter.unusedSimpArgs false
set_option linter.unusedVariables false
namespace Ab
open Go

theorem info_eq (P : Program) (t : TypeId) : P.toTables.info? t = P.info? t := rfl

theorem run_ti {P : Program} {t : TypeId} {i : TypeInfo} (h : P.info? t = some i) (w : World) : (typeInfo t).run P w = .ok i w := by
  simp [typeInfo, h]

theorem run_so {P : Program} {t : TypeId} {i : TypeInfo} (h : P.info? t = some i) (w : World) : (Go.sizeOf t).run P w = .ok i.size w := by
  simp [Go.sizeOf, run_ti h]

theorem run_ul {P : Program} {t : TypeId} {d : TypeDesc} (h : P.underlying t = some d) (w : World) : (underlying t).run P w = .ok d w := by
  simp [underlying, h]

theorem run_ia {P : Program} {t : TypeId} {d : TypeDesc} (h : P.underlying t = some d) (w : World) : (isAgg t).run P w = .ok (isAggB P t) w := by
  simp only [isAgg, Sem.run_bind, run_ul h, Result.andThen_ok, isAggB, h]
  cases d <;> rfl

/-- What an operation of the model does. -/
structure Does (P : Program) (ρ' : Operand → Value) (o : Oper) (w : World) (v' : Value) (w' : World) : Prop where
  run : (execOp ρ' o).run P w = .ok (.value v') w' ∨ (v' = undef ∧ (execOp ρ' o).run P w = .ok .skip w')

def OpRel (j : Inj) (ρ ρ' : Operand → Value) (a : AOp) : Prop := ∀ x ∈ a.operands, VRel j (ρ x) (ρ' x)

section
variable {P : Program} {j : Inj} {ρ ρ' : Operand → Value} {w : World}

theorem VRel.inv_int {k n} {x : Value} (h : VRel j (.int k n) x) : x = .int k n := by cases h; rfl
theorem VRel.inv_bool {b} {x : Value} (h : VRel j (.bool b) x) : x = .bool b := by cases h; rfl
theorem VRel.inv_str {b} {x : Value} (h : VRel j (.string b) x) : x = .string b := by cases h; rfl
theorem VRel.inv_agg {cs} {x : Value} (h : VRel j (.agg cs) x) : ∃ cs', x = .agg cs' ∧ VsRel j cs.toList cs'.toList := by cases h with | agg h => exact ⟨_, rfl, h⟩
theorem VRel.inv_tuple {cs} {x : Value} (h : VRel j (.tuple cs) x) : ∃ cs', x = .tuple cs' ∧ VsRel j cs.toList cs'.toList := by cases h with | tuple h => exact ⟨_, rfl, h⟩
theorem VRel.inv_ptr {b o} {x : Value} (h : VRel j (.pointer (some ⟨b, o, none⟩)) x) : ∃ s, j b = some s ∧ x = .pointer (some ⟨s.blk, s.sh + o, none⟩) := by
  cases h with | ptr h => exact ⟨_, h, rfl⟩

theorem VsRel.cellEq {k : Bool} {a a' b b' : Value} {r : Bool} (ha : VRel j a a') (hb : VRel j b b') (h : cellEq k a b = some r) : cellEq k a' b' = some r := by
  cases k <;> cases ha <;> cases hb <;> simp_all [Ab.cellEq]

theorem VsRel.cellsEq : ∀ {ks : List Bool} {a a' b b' : List Value} {r : Bool}, VsRel j a a' → VsRel j b b' → cellsEq ks a b = some r → cellsEq ks a' b' = some r
  | [], [], _, [], _, r, .nil, .nil, h => h
  | k :: ks, a :: as, _, b :: bs, _, r, .cons ha ta, .cons hb tb, h => by
    simp only [Ab.cellsEq] at *
    split at h
    · rename_i x y hx hy
      rw [VsRel.cellEq ha hb hx, VsRel.cellsEq ta tb hy]
      exact h
    · simp at h
  | [], [], _, _ :: _, _, r, .nil, .cons _ _, h => by simp [Ab.cellsEq] at h
  | [], _ :: _, _, _, _, r, .cons _ _, _, h => by simp [Ab.cellsEq] at h
  | _ :: _, _ :: _, _, [], _, r, .cons _ _, .nil, h => by simp [Ab.cellsEq] at h
  | _ :: _, [], _, _, _, r, .nil, _, h => by simp [Ab.cellsEq] at h

theorem Value.cells_eq (v : Value) : v.cells.toList = cellsOf v := by cases v <;> rfl

theorem VRel.cells {v v' : Value} (h : VRel j v v') : VsRel j (cellsOf v) (cellsOf v') := by
  cases h with
  | agg h => exact h
  | bool b => exact .cons (.bool b) .nil
  | int k n => exact .cons (.int k n) .nil
  | str s => exact .cons (.str s) .nil
  | nilPtr => exact .cons .nilPtr .nil
  | ptr h => exact .cons (.ptr h) .nil
  | nilSlice => exact .cons .nilSlice .nil
  | exact h1 h2 h3 => exact .cons (.exact h1 h2 h3) .nil
  | opn h1 h2 h3 => exact .cons (.opn h1 h2 h3) .nil
  | emp h1 h2 => exact .cons (.emp h1 h2) .nil
  | empx => exact .cons .empx .nil
  | nilMap => exact .cons .nilMap .nil
  | map h => exact .cons (.map h) .nil
  | func f h1 h2 => exact .cons (.func f h1 h2) .nil
  | yield h => exact .cons (.yield h) .nil
  | nilFunc => exact .cons .nilFunc .nil
  | nilIface => exact .cons .nilIface .nil
  | iface t h => exact .cons (.iface t h) .nil
  | tuple h => exact .cons (.tuple h) .nil

/-! ### Numbers -/

theorem wrap_i64 {n : Int} (h : inI n) : IntKind.wrap .i64 n = n := by
  obtain ⟨h1, h2⟩ := h
  simp only [IntKind.wrap, IntKind.bits, IntKind.signed, Bool.true_and, decide_eq_true_eq, ge_iff_le]
  split <;> omega

theorem arith_eq {k : IntKind} {r : Int} {v : Value} (h : arith k r = some v) : v = .int k (k.wrap r) := by
  unfold arith at h
  split at h
  · unfold chk at h
    split at h
    · rename_i hr
      rw [wrap_i64 hr]
      simpa using h.symm
    · simp at h
  · simpa using h.symm

theorem bitsOp_eq {op : BinOp} {k : IntKind} {x y : Int} {v : Value} (h : bitsOp op k x y = some v) : (Op.intBits op k x y).run P w = .ok v w := by
  unfold bitsOp at h
  cases op <;> simp only [Option.some.injEq, reduceCtorEq] at h <;> (subst h; rfl)

theorem binInt_sound {t : TypeId} {op : BinOp} {k : IntKind} {x y : Int} {v : Value} (h : binInt op k x y = some v) : (binOp op t (.int k x) (.int k y)).run P w = .ok v w := by
  cases op with
  | add => have := arith_eq (k := k) (r := x + y) h; subst this; simp [binOp, Op.intArith]
  | sub => have := arith_eq (k := k) (r := x - y) h; subst this; simp [binOp, Op.intArith]
  | mul => have := arith_eq (k := k) (r := x * y) h; subst this; simp [binOp, Op.intArith]
  | quo =>
    simp only [binInt] at h
    split at h
    · unfold chk at h
      split at h
      · rename_i hr
        simp at h
        subst h
        simp [binOp, Op.intDiv, hr.1, wrap_i64 hr.2]
      · simp at h
    · unfold chk at h
      split at h
      · rename_i hr
        simp at h
        subst h
        simp [binOp, Op.intDiv, hr]
      · simp at h
  | rem =>
    simp only [binInt, chk] at h
    split at h
    · rename_i hr
      simp at h
      subst h
      simp [binOp, Op.intDiv, hr]
    · simp at h
  | eql => simp only [binInt, Option.some.injEq] at h; subst h; simp [binOp, Op.intCmp]; by_cases hx : x = y <;> simp [hx]
  | neq => simp only [binInt, Option.some.injEq] at h; subst h; simp [binOp, Op.intCmp, bne]; by_cases hx : x = y <;> simp [hx]
  | lss => simp only [binInt, Option.some.injEq] at h; subst h; simp [binOp, Op.intCmp]
  | leq => simp only [binInt, Option.some.injEq] at h; subst h; simp [binOp, Op.intCmp]
  | gtr => simp only [binInt, Option.some.injEq] at h; subst h; simp [binOp, Op.intCmp]
  | geq => simp only [binInt, Option.some.injEq] at h; subst h; simp [binOp, Op.intCmp]
  | and => simp only [binInt] at h; simpa [binOp] using bitsOp_eq h
  | or => simp only [binInt] at h; simpa [binOp] using bitsOp_eq h
  | xor => simp only [binInt] at h; simpa [binOp] using bitsOp_eq h
  | andNot => simp only [binInt] at h; simpa [binOp] using bitsOp_eq h
  | shl => simp [binInt] at h
  | shr => simp [binInt] at h

theorem shift_sound {t : TypeId} {op : BinOp} {k yk : IntKind} {x y : Int} {v : Value} (ho : op = .shl ∨ op = .shr) (h : shiftInt op k x y = some v) : (binOp op t (.int k x) (.int yk y)).run P w = .ok v w := by
  unfold shiftInt at h
  split at h
  · simp at h
  · rename_i hy
    rcases ho with rfl | rfl <;> (simp at h; subst h; simp [binOp, Op.shift, hy])

theorem binV_sound {t : TypeId} {op : BinOp} {x y : Value} {v : Value} (h : binV op x y = some v) : (binOp op t x y).run P w = .ok v w := by
  unfold binV at h
  split at h
  · split at h
    · exact shift_sound (.inl rfl) h
    · exact shift_sound (.inr rfl) h
    · split at h
      · rename_i hk; subst hk; exact binInt_sound h
      · simp at h
  · unfold binStr at h
    split at h <;> simp at h <;> (subst h; simp [binOp, Op.stringOp])
  · simp at h


theorem binV_rel {op : BinOp} {x y v : Value} (h : binV op x y = some v) : isScalarCell v = true := by
  unfold binV at h
  split at h
  · split at h
    · unfold shiftInt at h; split at h <;> simp at h; subst h; rfl
    · unfold shiftInt at h; split at h <;> simp at h; subst h; rfl
    · split at h
      · unfold binInt at h
        split at h <;> (try (unfold arith at h)) <;> (try (unfold bitsOp at h)) <;> (try (split at h)) <;> (try (unfold chk at h)) <;> (try (split at h)) <;> simp at h <;> (try (subst h; rfl)) <;> (obtain ⟨_, rfl⟩ := h; rfl)
      · simp at h
  · unfold binStr at h
    split at h <;> simp at h <;> (subst h; rfl)
  · simp at h

theorem isNone_rel {a a' : Option Addr} {n c n' c'} (h : VRel j (.slice a n c) (.slice a' n' c')) : a.isNone = a'.isNone := by
  cases h <;> rfl

end
end Ab
namespace Ab
open Go

section
variable {P : Program} {j : Inj} {ρ ρ' : Operand → Value} {w : World}

theorem VsRel.map_ρ : ∀ {l : List Operand}, (∀ x ∈ l, VRel j (ρ x) (ρ' x)) → VsRel j (l.map ρ) (l.map ρ')
  | [], _ => .nil
  | x :: l, h => .cons (h x (by simp)) (VsRel.map_ρ fun y hy => h y (by simp [hy]))

/-- Go's zipIdx fold is 'over'. -/
theorem fold_over : ∀ (p : List Value) (cs : Array Value) (off k : Nat),
    ((p.zipIdx k).foldl (fun cs (c, i) => cs.setIfInBounds (off + i) c) cs).toList = over cs.toList (off + k) p
  | [], cs, off, k => by simp [over]
  | v :: p, cs, off, k => by
    simp only [List.zipIdx_cons, List.foldl_cons, over]
    rw [fold_over p _ off (k + 1)]
    simp [Nat.add_assoc]

theorem over_length : ∀ (p cs : List Value) (off : Nat), (over cs off p).length = cs.length
  | [], _, _ => rfl
  | _ :: p, cs, off => by simp [over, over_length p]

theorem VsRel.over : ∀ {p p' : List Value} {cs cs' : List Value} (off : Nat), VsRel j p p' → VsRel j cs cs' → VsRel j (over cs off p) (over cs' off p')
  | [], _, _, _, _, .nil, h => h
  | _ :: _, _, _, _, off, .cons hv t, h => VsRel.over (off + 1) t (h.set off hv)

theorem fill_sound {place : Nat → Option (Nat × Nat)} : ∀ {ps : List (Nat × Nat × Operand)} {qs : List (Nat × Operand)} {cs out : List Value} {cs' : Array Value},
    (ps.length = qs.length ∧ ∀ (i : Nat) p q, ps[i]? = some p → qs[i]? = some q → p.2.2 = q.2 ∧ place q.1 = some (p.1, p.2.1)) → (∀ p ∈ ps, VRel j (ρ p.2.2) (ρ' p.2.2)) → VsRel j cs cs'.toList → fillA ρ cs ps = some out →
    ∃ out', Instr.fill place cs' (qs.map fun q => (q.1, ρ' q.2)) = some out' ∧ VsRel j out out'.toList
  | [], [], cs, out, cs', _, _, hr, h => by
    simp only [fillA, Option.some.injEq] at h
    subst h
    exact ⟨cs', rfl, hr⟩
  | (off, size, x) :: ps, (i, y) :: qs, cs, out, cs', hp, hx, hr, h => by
    obtain ⟨hl, hg⟩ := hp
    obtain ⟨h1, h2⟩ := hg 0 _ _ rfl rfl
    simp only at h1 h2
    subst h1
    simp only [fillA] at h
    split at h
    · rename_i hc
      have hxv := (hx (off, size, x) (by simp)).cells
      simp only at hxv
      have hlen := hxv.length
      have hcl := hr.length
      have e1 : (ρ' x).cells.size = (cellsOf (ρ' x)).length := by rw [← Value.cells_eq]; simp
      simp only [List.map_cons, Instr.fill, h2]
      rw [if_neg (by simp [e1, ← hlen, hc.1]; have := hc.2; simp only [Array.length_toList] at hcl; omega)]
      have hov := VsRel.over off hxv hr
      have hf := fold_over (ρ' x).cells.toList cs' off 0
      rw [Nat.add_zero, Value.cells_eq] at hf
      rw [← hf] at hov
      refine fill_sound (ps := ps) (qs := qs) ⟨by simpa using hl, fun i p q h3 h4 => hg (i + 1) p q (by simpa using h3) (by simpa using h4)⟩ (fun p hp => hx p (by simp [hp])) (cs := Ab.over cs off (cellsOf (ρ x))) ?_ h
      rw [← Array.foldl_toList, Array.toList_zipIdx, Value.cells_eq]
      exact hov
    · simp at h
  | [], _ :: _, _, _, _, hp, _, _, _ => by simp at hp
  | _ :: _, [], _, _, _, hp, _, _, _ => by simp at hp


def ORel (j : Inj) : Option Value → Option Value → Prop
  | none, none => True
  | some a, some b => VRel j a b
  | _, _ => False

theorem ORel.ev {x : Option Operand} (h : ∀ y ∈ x.toList, VRel j (ρ y) (ρ' y)) : ORel j (oEv ρ x) (x.map ρ') := by
  cases x with
  | none => trivial
  | some y => exact h y (by simp)

theorem idx_int {v : Value} {n : Int} (h : idx v = some n) : ∃ k, v = .int k n := by
  cases v <;> simp [idx] at h
  exact ⟨_, by rw [h]⟩

theorem run_sliceBound {k : IntKind} {n : Int} {y : Nat} {code : BoundsCode} (h0 : 0 ≤ n) (h1 : n ≤ y) : (Instr.sliceBound (.int k n) y code).run P w = .ok n.toNat w := by
  simp [Instr.sliceBound, asIntOf, h0, h1]

theorem opt_int {lo lo' : Option Value} {d a : Int} (e : lo.elim (some d) idx = some a) (h : ORel j lo lo') :
    (lo = none ∧ lo' = none ∧ a = d) ∨ ∃ k, lo = some (.int k a) ∧ lo' = some (.int k a) := by
  cases lo <;> cases lo' <;> simp only [ORel] at h
  · simp at e; exact .inl ⟨rfl, rfl, e.symm⟩
  · simp at e
    obtain ⟨k, rfl⟩ := idx_int e
    exact .inr ⟨k, rfl, by rw [h.inv_int]⟩

theorem bounds_sound {isS : Bool} {len capA cap' : Nat} {lo hi mx lo' hi' mx' : Option Value} {l h m : Nat} (hb : boundsA len capA lo hi mx = some (l, h, m)) (_hlen : len ≤ cap') (hc : capA ≤ cap')
    (h1 : ORel j lo lo') (h2 : ORel j hi hi') (h3 : ORel j mx mx') :
    (Instr.sliceBounds isS len cap' lo' hi' mx').run P w = .ok (l, h, if mx.isSome then m else cap') w ∧ l ≤ h ∧ h ≤ m ∧ m ≤ capA ∧ (mx = none → m = capA) := by
  unfold boundsA at hb
  split at hb
  · rename_i a b c e1 e2 e3
    split at hb
    · rename_i hc'
      simp only [Option.some.injEq, Prod.mk.injEq] at hb
      obtain ⟨rfl, rfl, rfl⟩ := hb
      obtain ⟨g0, g1, g2, g3, g4⟩ := hc'
      refine ⟨?_, by omega, by omega, by omega, ?_⟩
      · rcases opt_int e1 h1 with ⟨rfl, rfl, ha⟩ | ⟨k1, rfl, rfl⟩ <;> rcases opt_int e2 h2 with ⟨rfl, rfl, hb⟩ | ⟨k2, rfl, rfl⟩ <;> rcases opt_int e3 h3 with ⟨rfl, rfl, hm⟩ | ⟨k3, rfl, rfl⟩ <;>
          simp only [Instr.sliceBounds, Sem.run_bind, Sem.run_pure, Result.andThen_ok, Option.isSome_none, Option.isSome_some, if_true] <;>
          (try rw [run_sliceBound (n := c) (by omega) (by omega)]) <;> (try simp only [Result.andThen_ok]) <;> (try rw [run_sliceBound (n := b) (by omega) (by omega)]) <;> (try simp only [Result.andThen_ok]) <;>
          (try rw [run_sliceBound (n := a) (by omega) (by omega)]) <;> (try simp only [Result.andThen_ok]) <;> (try simp at g4) <;> (try (simp; omega)) <;> (try simp)
      · intro hm
        subst hm
        simp at e3
        omega
    · simp at hb
  · simp at hb

end
end Ab
namespace Ab
open Go

section
variable {P : Program} {j : Inj} {ρ ρ' : Operand → Value} {w : World}

theorem Addr.add_none (b o n : Nat) : (⟨b, o, none⟩ : Addr).add n = ⟨b, o + n, none⟩ := by
  unfold Addr.add; split <;> simp_all

theorem VRel.inv_slice {a : Addr} {len cap : Nat} {x' : Value} (h : VRel j (.slice (some a) len cap) x') :
    (∃ s, j a.block = some s ∧ a.spot = none ∧ cap < openCap ∧ len ≤ cap ∧ x' = .slice (some ⟨s.blk, s.sh + a.off, none⟩) len cap) ∨
    (∃ s c, j a.block = some s ∧ a.spot = none ∧ cap = openCap ∧ len ≤ c ∧ c < openCap ∧ a.off + c * s.esz = s.cap ∧ x' = .slice (some ⟨s.blk, s.sh + a.off, none⟩) len c) ∨
    (∃ s a', j a.block = some s ∧ a.spot = none ∧ a.off = s.cap ∧ len = 0 ∧ cap = openCap ∧ x' = .slice (some a') 0 0) ∨
    (∃ a', len = 0 ∧ cap = 0 ∧ x' = .slice (some a') 0 0) := by
  generalize hv : Value.slice (some a) len cap = v at h
  cases h with
  | exact h1 h2 h3 => simp at hv; obtain ⟨rfl, rfl, rfl⟩ := hv; exact .inl ⟨_, h1, rfl, h2, h3, rfl⟩
  | opn h1 h2 h3 => simp at hv; obtain ⟨rfl, rfl, rfl⟩ := hv; exact .inr (.inl ⟨_, _, h1, rfl, rfl, h2.1, h2.2, h3, rfl⟩)
  | emp h1 h2 => simp at hv; obtain ⟨rfl, rfl, rfl⟩ := hv; exact .inr (.inr (.inl ⟨_, _, h1, rfl, h2, rfl, rfl, rfl⟩))
  | empx => simp at hv; obtain ⟨rfl, rfl, rfl⟩ := hv; exact .inr (.inr (.inr ⟨_, rfl, rfl, rfl⟩))
  | _ => simp at hv

theorem VRel.inv_snil {len cap : Nat} {x' : Value} (h : VRel j (.slice none len cap) x') : len = 0 ∧ cap = 0 ∧ x' = .slice none 0 0 := by
  generalize hv : Value.slice none len cap = v at h
  cases h with
  | nilSlice => simp at hv; exact ⟨hv.1, hv.2, rfl⟩
  | _ => simp at hv

theorem slice_sound {H : Heap} {t e : TypeId} {inf : TypeInfo} {x x' v : Value} {lo hi mx lo' hi' mx' : Option Value} (hs : Sim P j H w) (hu : P.underlying t = some (.slice e)) (hinf : P.info? e = some inf)
    (hv : sliceV H inf.size x lo hi mx = some v) (hx : VRel j x x') (h1 : ORel j lo lo') (h2 : ORel j hi hi') (h3 : ORel j mx mx') :
    ∃ v', (Instr.sliceAt t x' lo' hi' mx').run P w = .ok v' w ∧ VRel j v v' := by
  unfold sliceV at hv
  split at hv
  · split at hv
    · rename_i p hb
      obtain ⟨l, h, m⟩ := p
      simp at hv
      subst hv
      obtain ⟨rfl, rfl, rfl⟩ := hx.inv_snil
      obtain ⟨hr, g1, g2, g3, g4⟩ := bounds_sound (P := P) (w := w) (isS := true) (cap' := 0) hb (Nat.le_refl _) (Nat.le_refl _) h1 h2 h3
      refine ⟨.slice none 0 0, ?_, .nilSlice⟩
      have : h = 0 := by omega
      have : l = 0 := by omega
      have : m = 0 := by omega
      subst_vars
      simp [Instr.sliceAt, Instr.slice, run_ul hu, hr, run_so hinf]
    · simp at hv
  · rename_i b o len cap
    split at hv
    · rename_i hcap
      subst hcap
      split at hv
      · rename_i ro e' cs hg
        split at hv
        · rename_i he
          subst he
          split at hv
          · rename_i l h m hb
            simp at hv
            subst hv
            rcases hx.inv_slice with ⟨s, hj, _, hc, _⟩ | ⟨s, cap, hj, _, _, hl1, hl2, hc, rfl⟩ | ⟨s, a, hj, _, ha, rfl, _, rfl⟩ | ⟨a', rfl, hc, rfl⟩
            · exact absurd hc (by simp)
            · have hl := And.intro hl1 hl2
              obtain ⟨c, t', fz, ho, hes, hcells, hrw⟩ := hs.blk _ _ _ hj hg
              obtain ⟨hr, g1, g2, g3, g4⟩ := bounds_sound (P := P) (w := w) (isS := true) (cap' := cap) hb hl.1 hl.1 h1 h2 h3
              cases mx with
              | none =>
                have := g4 rfl
                subst this
                simp only [Option.isSome_none, Bool.false_eq_true, if_false] at hr
                refine ⟨.slice (if cap = l then some ⟨s.blk, s.sh + o, none⟩ else some ⟨s.blk, s.sh + o + l * inf.size, none⟩) (h - l) (cap - l), ?_, ?_⟩
                · simp [Instr.sliceAt, Instr.slice, run_ul hu, hr, run_so hinf, Addr.add_none]
                · simp only [Option.isSome_none, Bool.false_eq_true, if_false, false_and]
                  by_cases hcl : cap = l
                  · subst hcl
                    have : h - cap = 0 := by omega
                    simp only [if_true, this, Nat.sub_self]
                    refine .emp hj ?_
                    rw [← hc, ← hes]
                  · simp only [hcl, if_false]
                    rw [Nat.add_assoc]
                    refine .opn hj ⟨by omega, by omega⟩ ?_
                    rw [← hc, ← hes, Nat.sub_mul]
                    have h9 : l * s.esz ≤ cap * s.esz := Nat.mul_le_mul_right _ (by omega)
                    generalize cap * s.esz = A at *
                    generalize l * s.esz = B at *
                    show o + B + (A - B) = o + A
                    omega
              | some mv =>
                simp only [Option.isSome_some, if_true] at hr
                refine ⟨.slice (if m = l then some ⟨s.blk, s.sh + o, none⟩ else some ⟨s.blk, s.sh + o + l * inf.size, none⟩) (h - l) (m - l), ?_, ?_⟩
                · simp [Instr.sliceAt, Instr.slice, run_ul hu, hr, run_so hinf, Addr.add_none]
                · simp only [Option.isSome_some, if_true, true_and]
                  by_cases hcl : m = l
                  · simp only [hcl, if_true]
                    exact .exact hj (by omega) (by omega)
                  · simp only [hcl, if_false]
                    rw [Nat.add_assoc]
                    exact .exact hj (by omega) (by omega)
            · obtain ⟨hr, g1, g2, g3, g4⟩ := bounds_sound (P := P) (w := w) (isS := true) (cap' := 0) hb (Nat.le_refl _) (Nat.le_refl _) h1 h2 h3
              have e1 : h = 0 := by omega
              have e2 : l = 0 := by omega
              have e3 : m = 0 := by omega
              subst e1 e2 e3
              have hz : (if mx.isSome = true then 0 else 0) = 0 := by split <;> rfl
              rw [hz] at hr
              refine ⟨.slice (some a) 0 0, ?_, ?_⟩
              · simp [Instr.sliceAt, Instr.slice, run_ul hu, hr, run_so hinf]
              · cases mx with
                | none => simp; exact .emp hj (by simpa using ha)
                | some _ => simp; exact .empx
            · exact absurd hc (by decide)
          · simp at hv
        · simp at hv
      · simp at hv
    · rename_i hcap
      split at hv
      · rename_i l h m hb
        simp at hv
        subst hv
        rcases hx.inv_slice with ⟨s, hj, _, hc, hl, rfl⟩ | ⟨_, _, _, _, hc, _⟩ | ⟨_, _, _, _, _, _, hc, _⟩ | ⟨a', rfl, rfl, rfl⟩
        · obtain ⟨hr, g1, g2, g3, g4⟩ := bounds_sound (P := P) (w := w) (isS := true) (cap' := cap) hb hl (Nat.le_refl _) h1 h2 h3
          have hm : (if mx.isSome = true then m else cap) = m := by
            cases mx with
            | none => simp; exact (g4 rfl).symm
            | some _ => simp
          rw [hm] at hr
          refine ⟨.slice (if m = l then some ⟨s.blk, s.sh + o, none⟩ else some ⟨s.blk, s.sh + o + l * inf.size, none⟩) (h - l) (m - l), ?_, ?_⟩
          · simp [Instr.sliceAt, Instr.slice, run_ul hu, hr, run_so hinf, Addr.add_none]
          · by_cases hcl : m = l
            · simp only [hcl, if_true]
              exact .exact hj (by omega) (by omega)
            · simp only [hcl, if_false]
              rw [Nat.add_assoc]
              exact .exact hj (by omega) (by omega)
        · exact absurd hc hcap
        · exact absurd hc hcap
        · obtain ⟨hr, g1, g2, g3, g4⟩ := bounds_sound (P := P) (w := w) (isS := true) (cap' := 0) hb (Nat.le_refl _) (Nat.le_refl _) h1 h2 h3
          have e1 : h = 0 := by omega
          have e2 : l = 0 := by omega
          have e3 : m = 0 := by omega
          subst e1 e2 e3
          have hz : (if mx.isSome = true then 0 else 0) = 0 := by split <;> rfl
          rw [hz] at hr
          refine ⟨.slice (some a') 0 0, ?_, ?_⟩
          · simp [Instr.sliceAt, Instr.slice, run_ul hu, hr, run_so hinf]
          · simp; exact .empx
      · simp at hv
  · simp at hv

theorem sliceStr_sound {t : TypeId} {x x' v : Value} {lo hi lo' hi' : Option Value} (hu : P.underlying t = some .string)
    (hv : sliceStrV x lo hi = some v) (hx : VRel j x x') (h1 : ORel j lo lo') (h2 : ORel j hi hi') :
    ∃ v', (Instr.sliceAt t x' lo' hi' none).run P w = .ok v' w ∧ VRel j v v' := by
  unfold sliceStrV at hv
  split at hv
  · rename_i s
    have := hx.inv_str; subst this
    split at hv
    · rename_i l h m hb
      simp at hv
      subst hv
      obtain ⟨hr, g1, g2, g3, g4⟩ := bounds_sound (P := P) (w := w) (isS := false) (cap' := s.size) (mx := none) (mx' := none) hb (Nat.le_refl _) (Nat.le_refl _) h1 h2 trivial
      exact ⟨_, by simp [Instr.sliceAt, Instr.slice, run_ul hu, hr], .str _⟩
    · simp at hv
  · simp at hv

theorem sliceArr_sound {t e : TypeId} {n : Nat} {inf : TypeInfo} {x x' v : Value} {lo hi lo' hi' : Option Value} (hi0 : P.info? e = some inf) (hn : n < openCap)
    (hu : P.underlying t = some (.array n e) ∨ ∃ a, P.underlying t = some (.pointer a) ∧ P.underlying a = some (.array n e))
    (hv : sliceArrV n inf.size x lo hi = some v) (hx : VRel j x x') (h1 : ORel j lo lo') (h2 : ORel j hi hi') :
    ∃ v', (Instr.sliceAt t x' lo' hi' none).run P w = .ok v' w ∧ VRel j v v' := by
  unfold sliceArrV at hv
  split at hv
  · rename_i b o
    split at hv
    · rename_i l h m hb
      simp at hv
      subst hv
      obtain ⟨s, hj, rfl⟩ := hx.inv_ptr
      obtain ⟨hr, g1, g2, g3, g4⟩ := bounds_sound (P := P) (w := w) (isS := false) (cap' := n) (mx := none) (mx' := none) hb (Nat.le_refl _) (Nat.le_refl _) h1 h2 trivial
      have := g4 rfl
      subst this
      simp only [Option.isSome_none, Bool.false_eq_true, if_false] at hr
      refine ⟨.slice (some (if m = l then ⟨s.blk, s.sh + o, none⟩ else ⟨s.blk, s.sh + o + l * inf.size, none⟩)) (h - l) (m - l), ?_, ?_⟩
      · rcases hu with hu | ⟨a, hu, hu'⟩
        · simp [Instr.sliceAt, run_ul hu, Instr.sureAddr, hr, run_so hi0, Addr.add_none]
        · simp [Instr.sliceAt, Instr.slice, run_ul hu, run_ul hu', asAddr, hr, run_so hi0, Addr.add_none]
      · by_cases hcl : m = l
        · simp only [hcl, if_true]
          exact .exact hj (by omega) (by omega)
        · simp only [hcl, if_false]
          rw [Nat.add_assoc]
          exact .exact hj (by omega) (by omega)
    · simp at hv
  · simp at hv


theorem mapM_get {α β : Type} {f : α → Option β} : ∀ {l : List α} {r : List β}, l.mapM f = some r → ∀ (i : Nat) (a : α), l[i]? = some a → ∃ b, r[i]? = some b ∧ f a = some b
  | [], r, h, i, a, ha => by simp at ha
  | x :: l, r, h, i, a, ha => by
    simp only [List.mapM_cons, Option.bind_eq_bind, Option.pure_def] at h
    cases hx : f x with
    | none => simp [hx] at h
    | some b =>
      cases hr : l.mapM f with
      | none => simp [hx, hr] at h
      | some r' =>
        simp [hx, hr] at h
        subst h
        cases i with
        | zero => simp at ha; subst ha; exact ⟨b, rfl, hx⟩
        | succ i => simp at ha; simpa using mapM_get hr i a ha

theorem mapM_length {α β : Type} {f : α → Option β} : ∀ {l : List α} {r : List β}, l.mapM f = some r → r.length = l.length
  | [], r, h => by simp at h; subst h; rfl
  | x :: l, r, h => by
    simp only [List.mapM_cons, Option.bind_eq_bind, Option.pure_def] at h
    cases hx : f x with
    | none => simp [hx] at h
    | some b =>
      cases hr : l.mapM f with
      | none => simp [hx, hr] at h
      | some r' =>
        simp [hx, hr] at h
        subst h
        simp [mapM_length hr]

theorem mapM_get' {α β : Type} {f : α → Option β} {l : List α} {r : List β} (h : l.mapM f = some r) (i : Nat) (b : β) (hb : r[i]? = some b) : ∃ a, l[i]? = some a ∧ f a = some b := by
  have hi : i < r.length := by
    rw [List.getElem?_eq_some_iff] at hb; exact hb.1
  rw [mapM_length h] at hi
  obtain ⟨b', h1, h2⟩ := mapM_get h i l[i] (List.getElem?_eq_getElem hi)
  rw [hb] at h1
  cases h1
  exact ⟨_, List.getElem?_eq_getElem hi, h2⟩

theorem zeroOf_some {t : TypeId} {z : List Value} (h : zeroOf P t = some z) : ∃ i v, P.info? t = some i ∧ i.zero = some v ∧ cellsOf v = z ∧ z.all isScalarCell = true ∧ z.length = i.size := by
  unfold zeroOf at h
  split at h
  · rename_i i hi
    split at h
    · rename_i v hv
      split at h
      · rename_i hc
        simp only [Option.some.injEq] at h
        simp only [Bool.and_eq_true, decide_eq_true_eq] at hc
        subst h
        exact ⟨i, v, hi, hv, rfl, hc.1, hc.2⟩
      · simp at h
    · simp at h
  · simp at h

theorem part_sound {t : TypeId} {i : TypeInfo} {d : TypeDesc} {off : Nat} {cs cs' : Array Value} {v : Value} (hi : P.info? t = some i) (hd : P.underlying t = some d) (h : VsRel j cs.toList cs'.toList)
    (hv : partV (isAggB P t) off i.size cs.toList = some v) : ∃ v', (part t cs' off).run P w = .ok v' w ∧ VRel j v v' := by
  unfold partV at hv
  by_cases hb : isAggB P t = true
  · rw [if_pos hb] at hv
    simp only [Option.some.injEq] at hv
    subst hv
    refine ⟨.agg (cs'.extract off (off + i.size)), ?_, ?_⟩
    · simp [part, run_ia hd, hb, run_so hi]
    · have := (h.drop off).take i.size
      have e : (cs'.extract off (off + i.size)) = ⟨(cs'.toList.drop off).take i.size⟩ := by
        apply Array.ext'
        simp [List.extract_eq_take_drop]
      rw [e]
      exact .agg this
  · rw [if_neg hb] at hv
    obtain ⟨v', h1, h2⟩ := h.get hv
    refine ⟨v', ?_, h2⟩
    have h1' : cs'[off]? = some v' := by simpa using h1
    simp [part, run_ia hd, hb, h1']

theorem kindOf_some {t : TypeId} {k : Bool} (h : kindOf P t = some k) : ∃ d i, P.underlying t = some d ∧ P.info? t = some i ∧ i.size = 1 ∧ isAggB P t = false ∧ (match d with | .int _ => k = true | .bool => k = false | _ => False) := by
  unfold kindOf at h
  split at h
  · rename_i hu hi
    split at h
    · rename_i hs; simp at h; subst h; exact ⟨_, _, hu, hi, hs, by simp [isAggB, hu], rfl⟩
    · simp at h
  · rename_i hu hi
    split at h
    · rename_i hs; simp at h; subst h; exact ⟨_, _, hu, hi, hs, by simp [isAggB, hu], rfl⟩
    · simp at h
  · simp at h

theorem cell_run {t : TypeId} {k : Bool} {d : Nat} {a b : Value} {r : Bool} (h : kindOf P t = some k) (hr : cellEq k a b = some r) : (Op.equalIn (d + 1) t a b).run P w = .ok r w := by
  obtain ⟨dd, i, hu, _, _, _, hk⟩ := kindOf_some h
  cases dd <;> simp only [] at hk
  · subst hk
    cases a <;> cases b <;> simp [cellEq] at hr
    subst hr
    rw [run_equalIn_bool' w d t _ _ hu]
  · subst hk
    cases a <;> cases b <;> simp [cellEq] at hr
    obtain ⟨rfl, rfl⟩ := hr
    rw [run_equalIn_int w d t _ _ _ _ hu]
    rfl

theorem cell_part {t : TypeId} {k : Bool} {zs : Array Value} {n : Nat} (h : kindOf P t = some k) (hz : n < zs.size) : (part t zs n).run P w = .ok zs[n] w := by
  obtain ⟨dd, i, hu, _, _, hag, _⟩ := kindOf_some h
  simp [part, run_ia hu, hag, hz]

theorem cellsEq_length : ∀ {ks : List Bool} {a b : List Value} {r : Bool}, cellsEq ks a b = some r → a.length = ks.length ∧ b.length = ks.length
  | [], [], [], _, _ => ⟨rfl, rfl⟩
  | _ :: ks, _ :: as, _ :: bs, r, h => by
    simp only [cellsEq] at h
    split at h
    · rename_i hb
      have := cellsEq_length hb
      simp [this]
    · simp at h
  | [], [], _ :: _, _, h => by simp [cellsEq] at h
  | [], _ :: _, _, _, h => by simp [cellsEq] at h
  | _ :: _, [], _, _, h => by simp [cellsEq] at h
  | _ :: _, _ :: _, [], _, h => by simp [cellsEq] at h

theorem drop_cons {xs : Array Value} {n : Nat} {a : Value} {l : List Value} (h : xs.toList.drop n = a :: l) : ∃ hn : n < xs.size, a = xs[n] ∧ l = xs.toList.drop (n + 1) := by
  have hn : n < xs.size := by
    have := congrArg List.length h
    simp at this; omega
  have hx : xs.toList.drop n = xs[n] :: xs.toList.drop (n + 1) := by
    rw [List.drop_eq_getElem_cons (by simpa using hn)]; simp
  rw [hx] at h
  simp only [List.cons.injEq] at h
  exact ⟨hn, h.1.symm, h.2.symm⟩

theorem fields_run {xs ys : Array Value} {d : Nat} : ∀ {fs : List Field} {ks : List Bool} {n : Nat} {r : Bool}, flatFields P fs n = some ks → cellsEq ks (xs.toList.drop n) (ys.toList.drop n) = some r →
    (Op.eqFields (d + 1) xs ys fs).run P w = .ok r w
  | [], ks, n, r, hf, h => by
    simp only [flatFields, Option.some.injEq] at hf
    subst hf
    generalize xs.toList.drop n = a at h
    generalize ys.toList.drop n = b at h
    cases a <;> cases b <;> simp [cellsEq] at h
    subst h
    simp [Op.eqFields]
  | f :: fs, ks, n, r, hf, h => by
    simp only [flatFields] at hf
    split at hf
    · rename_i hc
      split at hf
      · rename_i k ks' hk hks
        simp only [Option.some.injEq] at hf
        subst hf
        cases hx : xs.toList.drop n with
        | nil => rw [hx] at h; simp [cellsEq] at h
        | cons a as =>
          cases hy : ys.toList.drop n with
          | nil => rw [hx, hy] at h; simp [cellsEq] at h
          | cons b bs =>
            rw [hx, hy] at h
            obtain ⟨hn, rfl, rfl⟩ := drop_cons hx
            obtain ⟨hn', rfl, rfl⟩ := drop_cons hy
            simp only [cellsEq] at h
            split at h
            · rename_i x y h1 h2
              simp only [Option.some.injEq] at h
              subst h
              have ih := fields_run (d := d) hks h2
              simp only [Op.eqFields, hc.2, ne_eq, not_false_eq_true, if_true, Sem.run_bind, hc.1, cell_part hk hn, cell_part hk hn', Result.andThen_ok, cell_run hk h1]
              cases x
              · simp
              · simp [ih]
            · simp at h
      · simp at hf
    · simp at hf

end
end Ab
namespace Ab
open Go

section
variable {P : Program} {j : Inj} {ρ ρ' : Operand → Value} {w : World}

theorem items_run {xs ys : Array Value} {d : Nat} {e : TypeId} {k : Bool} (hk : kindOf P e = some k) : ∀ {m n : Nat} {r : Bool}, cellsEq (List.replicate m k) (xs.toList.drop n) (ys.toList.drop n) = some r →
    (Op.eqItems (d + 1) e 1 xs ys (List.range' n m)).run P w = .ok r w
  | 0, n, r, h => by
    generalize xs.toList.drop n = a at h
    generalize ys.toList.drop n = b at h
    cases a <;> cases b <;> simp [cellsEq] at h
    subst h
    simp [Op.eqItems]
  | m + 1, n, r, h => by
    rw [List.replicate_succ] at h
    cases hx : xs.toList.drop n with
    | nil => rw [hx] at h; simp [cellsEq] at h
    | cons a as =>
      cases hy : ys.toList.drop n with
      | nil => rw [hx, hy] at h; simp [cellsEq] at h
      | cons b bs =>
        rw [hx, hy] at h
        obtain ⟨hn, rfl, rfl⟩ := drop_cons hx
        obtain ⟨hn', rfl, rfl⟩ := drop_cons hy
        simp only [cellsEq] at h
        split at h
        · rename_i x y h1 h2
          simp only [Option.some.injEq] at h
          subst h
          have ih := items_run (d := d) hk h2
          simp only [List.range'_succ, Op.eqItems, Sem.run_bind, Nat.mul_one, cell_part hk hn, cell_part hk hn', Result.andThen_ok, cell_run hk h1]
          cases x
          · simp
          · simp [ih]
        · simp at h

theorem flat_run {t : TypeId} {ks : List Bool} {xs ys : Array Value} {r : Bool} {d : Nat} (hf : flat P t = some ks) (h : cellsEq ks xs.toList ys.toList = some r) :
    (Op.equalIn (d + 2) t (.agg xs) (.agg ys)).run P w = .ok r w ∧ P.eqGuardType P.depth t = false := by
  unfold flat at hf
  split at hf
  · rename_i fs hu
    split at hf
    · simp at hf
    · rename_i hc
      simp only [Bool.or_eq_true, not_or, Bool.not_eq_true] at hc
      refine ⟨?_, hc.2⟩
      have hfo : P.fieldsOf t = fs := by simp [Program.fieldsOf, hu]
      rw [run_equalIn_struct w (d + 1) t xs ys (by rw [hfo]; exact hu) hc.1, hfo]
      exact fields_run (n := 0) hf (by simpa using h)
  · rename_i n e hu
    split at hf
    · simp at hf
    · rename_i hc
      cases hk : kindOf P e with
      | none => simp [hk] at hf
      | some k =>
        simp [hk] at hf
        subst hf
        refine ⟨?_, by simpa using hc⟩
        obtain ⟨dd, i, hue, hi, hs, _, _⟩ := kindOf_some hk
        rw [run_equalIn_array w (d + 1) xs ys hu hi]
        have : P.cellsOf e = 1 := by simp [Program.cellsOf, hi, hs]
        rw [this, List.range_eq_range']
        exact items_run (n := 0) hk (by simpa using h)
  · simp at hf

theorem checkKey_run {t : TypeId} {kk : KK} {x : Value} {em : Bool} {d : Nat} (hk : keyOk P t = some kk) (h : isKey kk x = true) : (Instr.checkKey em (d + 2) t x).run P w = .ok () w := by
  unfold keyOk at hk
  split at hk
  · rename_i k hu
    simp at hk; subst hk
    cases x <;> simp [isKey] at h
    simp [Instr.checkKey, run_ul hu]
  · rename_i hu
    simp at hk; subst hk
    cases x <;> simp [isKey] at h
    simp [Instr.checkKey, run_ul hu]
  · rename_i hu
    simp at hk; subst hk
    cases x <;> simp [isKey] at h
    simp [Instr.checkKey, run_ul hu]
  · rename_i fs hu
    cases hf : flat P t with
    | none => simp [hf] at hk
    | some ks =>
      simp [hf] at hk; subst hk
      cases x <;> simp [isKey] at h
      rename_i xs
      simp only [flat, hu] at hf
      split at hf
      · simp at hf
      · rw [show d + 2 = (d + 1) + 1 from rfl, Instr.checkKey]
        simp only [Sem.run_bind, run_ul hu, Result.andThen_ok]
        rw [← Array.forIn_toList]
        obtain ⟨r, hr⟩ := Option.isSome_iff_exists.1 h
        have hlen := (cellsEq_length hr).1
        have : ∀ (L : List Field) (n : Nat) (ks : List Bool), flatFields P L n = some ks → n + ks.length ≤ xs.size →
            (forIn L PUnit.unit fun f r => do if f.name ≠ "_" then do { let y ← part f.type xs f.offset; Instr.checkKey em (d + 1) f.type y; pure (ForInStep.yield PUnit.unit) } else pure (ForInStep.yield PUnit.unit) : Sem PUnit).run P w = .ok PUnit.unit w := by
          intro L
          induction L with
          | nil => intro n ks _ _; simp
          | cons f L ih =>
            intro n ks hff hl
            simp only [flatFields] at hff
            split at hff
            · rename_i hc
              split at hff
              · rename_i k ks' h1 h2
                simp only [Option.some.injEq] at hff
                subst hff
                simp only [List.length_cons] at hl
                have hn : n < xs.size := by omega
                obtain ⟨dd, i, hu', _, _, hag, hdk⟩ := kindOf_some h1
                have hck : ∀ y : Value, (Instr.checkKey em (d + 1) f.type y).run P w = .ok () w := by
                  intro y
                  cases dd <;> simp only [] at hdk <;> simp [Instr.checkKey, run_ul hu']
                simp only [List.forIn_cons, Sem.run_bind, hc.2, ne_eq, not_false_eq_true, if_true, hc.1, cell_part h1 hn, Result.andThen_ok, hck, Sem.run_pure]
                exact ih (n + 1) ks' h2 (by omega)
              · simp at hff
            · simp at hff
        have := this _ 0 ks hf (by simp at hlen; omega)
        simp only [ne_eq] at this ⊢
        rw [this]
        rfl
  · rename_i n e hu
    cases hf : flat P t with
    | none => simp [hf] at hk
    | some ks =>
      simp [hf] at hk; subst hk
      cases x <;> simp [isKey] at h
      rename_i xs
      simp only [flat, hu] at hf
      split at hf
      · simp at hf
      · cases hkd : kindOf P e with
        | none => simp [hkd] at hf
        | some k =>
          simp [hkd] at hf
          subst hf
          obtain ⟨dd, i, hu', hi, hs, hag, hdk⟩ := kindOf_some hkd
          have hck : ∀ y : Value, (Instr.checkKey em (d + 1) e y).run P w = .ok () w := by
            intro y
            cases dd <;> simp only [] at hdk <;> simp [Instr.checkKey, run_ul hu']
          rw [show d + 2 = (d + 1) + 1 from rfl, Instr.checkKey]
          simp only [Sem.run_bind, run_ul hu, Result.andThen_ok]
          simp only [Std.Legacy.Range.forIn_eq_forIn_range', Std.Legacy.Range.size, Nat.sub_zero, Nat.add_one_sub_one, Nat.div_one]
          obtain ⟨r, hr⟩ := Option.isSome_iff_exists.1 h
          have hlen := (cellsEq_length hr).1
          simp at hlen
          have : ∀ (m k0 : Nat), k0 + m ≤ xs.size → (forIn (List.range' k0 m) PUnit.unit fun i r => do { let s ← Go.sizeOf e; let y ← part e xs (i * s); Instr.checkKey em (d + 1) e y; pure (ForInStep.yield PUnit.unit) } : Sem PUnit).run P w = .ok PUnit.unit w := by
            intro m
            induction m with
            | zero => intro k0 _; simp
            | succ m ih =>
              intro k0 hl
              simp only [List.range'_succ, List.forIn_cons, Sem.run_bind, run_so hi, hs, Nat.mul_one, Result.andThen_ok, cell_part hkd (show k0 < xs.size by omega), hck, Sem.run_pure]
              exact ih (k0 + 1) (by omega)
          have := this n 0 (by omega)
          rw [this]
          rfl
  · simp at hk

end
end Ab
namespace Ab
open Go

section
variable {P : Program} {j : Inj} {ρ ρ' : Operand → Value} {w : World}

theorem run_if {c : Prop} [Decidable c] {x y : Sem Unit} (hx : x.run P w = .ok () w) (hy : y.run P w = .ok () w) : (if c then x else y).run P w = .ok () w := by
  split <;> assumption

theorem guard_plain {op : BinOp} {t : TypeId} {x y : Operand} {a b : Value} (h : ∀ c d, ¬ (a = .agg c ∧ b = .agg d)) (h' : a ≠ .nilIface) : (eqGuard op t x y a b).run P w = .ok () w := by
  unfold eqGuard
  refine run_if rfl ?_
  cases a <;> first | (exact absurd rfl h'; done) | (cases b <;> first | rfl | exact absurd ⟨rfl, rfl⟩ (h _ _))

theorem eqNil_rel {m : Bool} {x y x' y' : Value} {r : Bool} (hx : VRel j x x') (hy : VRel j y y') (h : eqNilV m x y = some r) : eqNilV m x' y' = some r := by
  unfold eqNilV at h
  split at h
  · rename_i b _ _
    obtain ⟨_, _, rfl⟩ := hx.inv_snil
    cases b with
    | none => obtain ⟨_, _, rfl⟩ := hy.inv_snil; exact h
    | some b =>
      rcases hy.inv_slice with ⟨_, _, _, _, _, rfl⟩ | ⟨_, _, _, _, _, _, _, _, rfl⟩ | ⟨_, _, _, _, _, _, _, rfl⟩ | ⟨_, _, _, rfl⟩ <;> exact h
  · rename_i a _ _ _ _ hne
    obtain ⟨_, _, rfl⟩ := hy.inv_snil
    cases a with
    | none => exact absurd rfl (by first | exact hne | exact hne _ _)
    | some a =>
      rcases hx.inv_slice with ⟨_, _, _, _, _, rfl⟩ | ⟨_, _, _, _, _, _, _, _, rfl⟩ | ⟨_, _, _, _, _, _, _, rfl⟩ | ⟨_, _, _, rfl⟩ <;> exact h
  · rename_i b
    cases hx
    cases hy <;> exact h
  · rename_i a hne
    cases hy
    cases hx
    · exact absurd rfl (hne)
    · exact h
  · simp at h

theorem eq_of_equal {t : TypeId} {x y : Value} {r neg : Bool} (h : (Op.equal t x y).run P w = .ok r w)
    (h1 : binOp .eql t x y = (do pure (.bool (← Op.equal t x y)))) (h2 : binOp .neq t x y = (do pure (.bool (!(← Op.equal t x y))))) : (binOp (if neg then .neq else .eql) t x y).run P w = .ok (flip neg r) w := by
  cases neg
  · simp [h1, h, flip]
  · simp [h2, h, flip]

theorem eqNil_run {t : TypeId} {m : Bool} {x y : Value} {r neg : Bool} (hu : if m then ∃ k e, P.underlying t = some (.map k e) else ∃ e, P.underlying t = some (.slice e)) (h : eqNilV m x y = some r) :
    (binOp (if neg then .neq else .eql) t x y).run P w = .ok (flip neg r) w ∧ (∀ c d, ¬ (x = .agg c ∧ y = .agg d)) ∧ x ≠ .nilIface := by
  unfold eqNilV at h
  split at h
  · simp at hu h
    obtain ⟨e, hu⟩ := hu
    refine ⟨eq_of_equal ?_ rfl rfl, by simp, by simp⟩
    subst h
    rw [Op.equal, Op.maxDepth, Op.equalIn]
    simp [run_ul hu]
  · rename_i a _ _ _ _ hne
    simp at hu h
    obtain ⟨e, hu⟩ := hu
    subst h
    refine ⟨eq_of_equal ?_ rfl rfl, by simp, by simp⟩
    cases a with
    | none => exact absurd rfl (by first | exact hne | exact hne _ _)
    | some a => rw [Op.equal, Op.maxDepth, Op.equalIn]; simp [run_ul hu]
  · simp at hu h
    obtain ⟨k, e, hu⟩ := hu
    refine ⟨eq_of_equal ?_ rfl rfl, by simp, by simp⟩
    subst h
    rw [Op.equal, Op.maxDepth, Op.equalIn]
    simp [run_ul hu]
  · rename_i a hne
    simp at hu h
    obtain ⟨k, e, hu⟩ := hu
    subst h
    refine ⟨eq_of_equal ?_ rfl rfl, by simp, by simp⟩
    cases a with
    | none => exact absurd rfl hne
    | some a => rw [Op.equal, Op.maxDepth, Op.equalIn]; simp [run_ul hu]
  · simp at h

theorem exec_bin {o : Oper} {op : BinOp} {t yt : TypeId} {x y : Operand} (ho : o.op = .binOp op t x y yt) {v : Value} (hg : (eqGuard op t x y (ρ' x) (ρ' y)).run P w = .ok () w)
    (h : (binOp op t (ρ' x) (ρ' y)).run P w = .ok v w) : (execOp ρ' o).run P w = .ok (.value v) w := by
  unfold execOp
  simp [ho, hg, h]

theorem exec_value {o : Oper} {s : Sem Value} {v : Value} {w' : World} (ho : execOp ρ' o = (do pure (.value (← s)))) (h : s.run P w = .ok v w') : (execOp ρ' o).run P w = .ok (.value v) w' := by
  rw [ho]; simp [h]

theorem VRel.inv_ptr' {a : Addr} {x : Value} (h : VRel j (.pointer (some a)) x) : ∃ a', x = .pointer (some a') := by
  generalize hv : Value.pointer (some a) = v at h
  cases h with
  | ptr hj => exact ⟨_, rfl⟩
  | _ => simp at hv

theorem VRel.inv_func {fn : Fn} {a c : Array Value} {x : Value} (h : VRel j (.func fn a c) x) : ∃ fn' a' c', x = .func fn' a' c' ∧ ∀ n, fn' ≠ .method n := by
  generalize hv : Value.func fn a c = v at h
  cases h with
  | func f ha hc => exact ⟨_, _, _, rfl, by simp⟩
  | yield hj => exact ⟨_, _, _, rfl, by simp⟩
  | _ => simp at hv

/-- THE THEOREM OF PURE OPERATIONS. -/
theorem pure_sound {o : Oper} {a : AOp} {v : Value} (hc : cOp P o.op o.type = some a) (hv : pureOp ρ a = some v) (hr : OpRel j ρ ρ' a) :
    ∃ v', (execOp ρ' o).run P w = .ok (.value v') w ∧ VRel j v v' := by
  obtain ⟨dst, op, type, pos, after, guard⟩ := o
  simp only at hc
  cases op with
  | move x =>
    simp only [cOp, Option.some.injEq] at hc; subst hc
    simp only [pureOp, Option.some.injEq] at hv; subst hv
    exact ⟨_, rfl, hr x (by simp [AOp.operands])⟩
  | assign x =>
    simp only [cOp, Option.some.injEq] at hc; subst hc
    simp only [pureOp, Option.some.injEq] at hv; subst hv
    exact ⟨_, rfl, hr x (by simp [AOp.operands])⟩
  | pick c x y =>
    simp only [cOp, Option.some.injEq] at hc; subst hc
    simp only [pureOp] at hv
    have h1 := hr c (by simp [AOp.operands])
    have h2 := hr x (by simp [AOp.operands])
    have h3 := hr y (by simp [AOp.operands])
    split at hv
    · rename_i hcv
      rw [hcv] at h1
      simp only [Option.some.injEq] at hv; subst hv
      exact ⟨ρ' x, by simp [execOp, h1.inv_bool, asBool], h2⟩
    · rename_i hcv
      rw [hcv] at h1
      simp only [Option.some.injEq] at hv; subst hv
      exact ⟨ρ' y, by simp [execOp, h1.inv_bool, asBool], h3⟩
    · simp at hv
  | build t parts =>
    simp only [cOp] at hc
    split at hc
    · rename_i z fs hz hu
      split at hc
      · rename_i pl ps hpl hps
        simp only [Option.some.injEq] at hc; subst hc
        simp only [pureOp, Option.map_eq_some_iff] at hv
        obtain ⟨cs, hcs, rfl⟩ := hv
        obtain ⟨i, z0, hi, hz0, hze, hza, hzl⟩ := zeroOf_some hz
        have hplaces : ∀ (i : Nat) (p : Nat × Nat × Operand) (q : Nat × Operand), ps[i]? = some p → parts.toList[i]? = some q → p.2.2 = q.2 ∧ (fun k : Nat => pl.toArray[k]?) q.1 = some (p.1, p.2.1) := by
          intro i p q hp hq
          obtain ⟨q', h1, h2⟩ := mapM_get' hps i p hp
          rw [hq] at h1; cases h1
          cases hin : P.info? (fs.getD q.1 default).type with
          | none => rw [hin] at h2; simp at h2
          | some inf =>
            rw [hin, Option.bind_some] at h2
            split at h2
            · rename_i hlt
              simp only [Option.some.injEq] at h2
              subst h2
              refine ⟨rfl, ?_⟩
              have hf : fs.toList[q.1]? = some fs[q.1] := by simp [hlt]
              obtain ⟨b, hb, hb'⟩ := mapM_get hpl q.1 _ hf
              have e : fs.getD q.1 default = fs[q.1] := by simp [Array.getD, hlt]
              rw [e] at hin
              simp [hin] at hb'
              simp [hb, ← hb', e]
            · simp at h2
        have hclosed : VsRel j z z0.cells.toList := by
          rw [Value.cells_eq, hze]; exact VsRel.closed j hza
        obtain ⟨out', ho, hrel⟩ := fill_sound (place := fun k : Nat => pl.toArray[k]?) (qs := parts.toList) ⟨mapM_length hps, hplaces⟩ (fun p hp => hr p.2.2 (by simp only [AOp.operands]; exact List.mem_map_of_mem (f := fun q => q.2.2) hp)) hclosed hcs
        refine ⟨.agg out', ?_, ?_⟩
        · refine exec_value (s := Instr.build t (parts.map fun (i, x) => (i, ρ' x))) rfl ?_
          refine run_build w t _ out' ?_
          simp only [Program.built, hi, hu, hz0]
          simp only [placesA] at hpl
          rw [hpl]
          simpa using ho
        · exact .agg hrel
      · simp at hc
    · rename_i z n e hz hu
      cases hie : P.info? e with
      | none => simp [hie] at hc
      | some ie =>
        simp only [hie, Option.map_some, Option.some.injEq] at hc; subst hc
        simp only [pureOp, Option.map_eq_some_iff] at hv
        obtain ⟨cs, hcs, rfl⟩ := hv
        obtain ⟨i, z0, hi, hz0, hze, hza, hzl⟩ := zeroOf_some hz
        have hclosed : VsRel j z z0.cells.toList := by
          rw [Value.cells_eq, hze]; exact VsRel.closed j hza
        obtain ⟨out', ho, hrel⟩ := fill_sound (place := fun k => some (k * ie.size, ie.size)) (qs := parts.toList) ⟨by simp, by
            intro i p q hp hq
            simp only [List.getElem?_map, hq, Option.map_some, Option.some.injEq] at hp
            subst hp
            exact ⟨rfl, rfl⟩⟩ (fun p hp => hr p.2.2 (by simp only [AOp.operands]; exact List.mem_map_of_mem (f := fun q => q.2.2) hp)) hclosed hcs
        refine ⟨.agg out', ?_, .agg hrel⟩
        refine exec_value (s := Instr.build t (parts.map fun (i, x) => (i, ρ' x))) rfl ?_
        refine run_build w t _ out' ?_
        simp only [Program.built, hi, hu, hz0, hie]
        simpa using ho
    · simp at hc
  | binOp op t x y yt =>
    simp only [cOp] at hc
    split at hc
    · simp only [Option.some.injEq] at hc; subst hc
      simp only [pureOp] at hv
      have h1 := hr x (by simp [AOp.operands])
      have h2 := hr y (by simp [AOp.operands])
      refine ⟨v, ?_, VRel.closedCell j (binV_rel hv)⟩
      have hxy : ρ' x = ρ x ∧ ρ' y = ρ y ∧ (∀ c, ρ x ≠ .agg c) ∧ ρ x ≠ .nilIface := by
        unfold binV at hv
        split at hv
        · rename_i ex ey
          rw [ex] at h1; rw [ey] at h2
          rw [h1.inv_int, h2.inv_int, ex, ey]; simp
        · rename_i ex ey
          rw [ex] at h1; rw [ey] at h2
          rw [h1.inv_str, h2.inv_str, ex, ey]; simp
        · simp at hv
      refine exec_bin rfl ?_ ?_
      · rw [hxy.1, hxy.2.1]
        exact guard_plain (fun c d h => hxy.2.2.1 c h.1) hxy.2.2.2
      · rw [hxy.1, hxy.2.1]
        exact binV_sound hv
    · simp only [Option.some.injEq] at hc; subst hc
      simp only [pureOp] at hv
      have h1 := hr x (by simp [AOp.operands])
      have h2 := hr y (by simp [AOp.operands])
      refine ⟨v, ?_, VRel.closedCell j (binV_rel hv)⟩
      have hxy : ρ' x = ρ x ∧ ρ' y = ρ y ∧ (∀ c, ρ x ≠ .agg c) ∧ ρ x ≠ .nilIface := by
        unfold binV at hv
        split at hv
        · rename_i ex ey
          rw [ex] at h1; rw [ey] at h2
          rw [h1.inv_int, h2.inv_int, ex, ey]; simp
        · rename_i ex ey
          rw [ex] at h1; rw [ey] at h2
          rw [h1.inv_str, h2.inv_str, ex, ey]; simp
        · simp at hv
      refine exec_bin rfl ?_ ?_
      · rw [hxy.1, hxy.2.1]
        exact guard_plain (fun c d h => hxy.2.2.1 c h.1) hxy.2.2.2
      · rw [hxy.1, hxy.2.1]
        exact binV_sound hv
    · rename_i hu
      have key : ∀ neg : Bool, a = .eqBool neg x y → op = (if neg then .neq else .eql) → ∃ v', (execOp ρ' ⟨dst, .binOp op t x y yt, type, pos, after, guard⟩).run P w = .ok (.value v') w ∧ VRel j v v' := by
        intro neg ha hop
        subst ha
        simp only [pureOp] at hv
        have h1 := hr x (by simp [AOp.operands])
        have h2 := hr y (by simp [AOp.operands])
        split at hv
        · rename_i c d ex ey
          rw [ex] at h1; rw [ey] at h2
          simp only [Option.some.injEq] at hv; subst hv
          refine ⟨_, ?_, .bool _⟩
          refine exec_bin rfl ?_ ?_
          · rw [h1.inv_bool, h2.inv_bool]; exact guard_plain (by simp) (by simp)
          · rw [h1.inv_bool, h2.inv_bool, hop]
            refine eq_of_equal ?_ rfl rfl
            rw [Op.equal, Op.maxDepth, Op.equalIn]; simp [run_ul hu]
        · simp at hv
      split at hc
      · simp only [Option.some.injEq] at hc
        exact key false hc.symm rfl
      · simp only [Option.some.injEq] at hc
        exact key true hc.symm rfl
      · simp at hc
    · rename_i e hu
      have key : ∀ neg : Bool, a = .eqNil neg false x y → op = (if neg then .neq else .eql) → ∃ v', (execOp ρ' ⟨dst, .binOp op t x y yt, type, pos, after, guard⟩).run P w = .ok (.value v') w ∧ VRel j v v' := by
        intro neg ha hop
        subst ha
        simp only [pureOp, Option.map_eq_some_iff] at hv
        obtain ⟨r, hv, rfl⟩ := hv
        have hn := eqNil_rel (hr x (by simp [AOp.operands])) (hr y (by simp [AOp.operands])) hv
        obtain ⟨g1, g2, g3⟩ := eqNil_run (P := P) (w := w) (t := t) (neg := neg) (by simp; exact ⟨e, hu⟩) hn
        refine ⟨_, exec_bin rfl (guard_plain g2 g3) (by rw [hop]; exact g1), .bool _⟩
      split at hc
      · simp only [Option.some.injEq] at hc
        exact key false hc.symm rfl
      · simp only [Option.some.injEq] at hc
        exact key true hc.symm rfl
      · simp at hc
    · rename_i k e hu
      have key : ∀ neg : Bool, a = .eqNil neg true x y → op = (if neg then .neq else .eql) → ∃ v', (execOp ρ' ⟨dst, .binOp op t x y yt, type, pos, after, guard⟩).run P w = .ok (.value v') w ∧ VRel j v v' := by
        intro neg ha hop
        subst ha
        simp only [pureOp, Option.map_eq_some_iff] at hv
        obtain ⟨r, hv, rfl⟩ := hv
        have hn := eqNil_rel (hr x (by simp [AOp.operands])) (hr y (by simp [AOp.operands])) hv
        obtain ⟨g1, g2, g3⟩ := eqNil_run (P := P) (w := w) (t := t) (neg := neg) (by simp; exact ⟨k, e, hu⟩) hn
        refine ⟨_, exec_bin rfl (guard_plain g2 g3) (by rw [hop]; exact g1), .bool _⟩
      split at hc
      · simp only [Option.some.injEq] at hc
        exact key false hc.symm rfl
      · simp only [Option.some.injEq] at hc
        exact key true hc.symm rfl
      · simp at hc
    all_goals try (simp at hc; done)
    all_goals
      split at hc
      · rename_i ks hf
        have key : ∀ neg : Bool, a = .eqFlat neg ks x y → op = (if neg then .neq else .eql) → ∃ v', (execOp ρ' ⟨dst, .binOp op t x y yt, type, pos, after, guard⟩).run P w = .ok (.value v') w ∧ VRel j v v' := by
          intro neg ha hop
          subst ha
          simp only [pureOp] at hv
          have h1 := hr x (by simp [AOp.operands])
          have h2 := hr y (by simp [AOp.operands])
          split at hv
          · rename_i c d ex ey
            rw [ex] at h1; rw [ey] at h2
            simp only [Option.map_eq_some_iff] at hv
            obtain ⟨r, hv, rfl⟩ := hv
            obtain ⟨c', ec, hc'⟩ := h1.inv_agg
            obtain ⟨d', ed, hd'⟩ := h2.inv_agg
            have hce := VsRel.cellsEq hc' hd' hv
            have hfr := flat_run (P := P) (w := w) (d := 9998) hf hce
            refine ⟨_, ?_, .bool _⟩
            refine exec_bin rfl ?_ ?_
            · rw [ec, ed]; exact run_eqGuard_agg w op t x y c' d' hfr.2
            · rw [ec, ed, hop]
              exact eq_of_equal hfr.1 rfl rfl
          · simp at hv
        split at hc
        · simp only [Option.some.injEq] at hc
          exact key false hc.symm rfl
        · simp only [Option.some.injEq] at hc
          exact key true hc.symm rfl
        · simp at hc
      · simp at hc
  | unOp op t x =>
    simp only [cOp, Option.some.injEq] at hc; subst hc
    simp only [pureOp] at hv
    have h1 := hr x (by simp [AOp.operands])
    refine ⟨v, ?_, ?_⟩
    · refine exec_value (s := Op.unary op (ρ' x)) rfl ?_
      unfold unV at hv
      split at hv
      · rename_i k n e
        rw [e] at h1
        rw [h1.inv_int]
        have := arith_eq hv
        subst this
        simp [Op.unary, Op.intArith]
      · rename_i b e
        rw [e] at h1
        rw [h1.inv_bool]
        simp at hv; subst hv
        simp [Op.unary]
      · rename_i k n e
        rw [e] at h1
        rw [h1.inv_int]
        simp only [Op.unary]
        exact bitsOp_eq hv
      · simp at hv
    · unfold unV at hv
      split at hv
      · rw [arith_eq hv]; exact .int _ _
      · simp at hv; subst hv; exact .bool _
      · simp only [bitsOp, Option.some.injEq] at hv
        subst hv; exact .int _ _
      · simp at hv
  | convert s d x =>
    simp only [cOp] at hc
    split at hc
    · rename_i ks k hs hd
      simp only [Option.some.injEq] at hc; subst hc
      simp only [pureOp] at hv
      have h1 := hr x (by simp [AOp.operands])
      split at hv
      · rename_i k' n e
        rw [e] at h1
        simp only [Option.some.injEq] at hv; subst hv
        refine ⟨_, exec_value (s := convert s d (ρ' x)) rfl ?_, .int _ _⟩
        rw [h1.inv_int]
        simp [convert, run_ul hs, run_ul hd, Conv.intToInt]
      · simp at hv
    · simp at hc
  | makeFunc fn first captured =>
    cases fn <;> simp only [cOp, Option.some.injEq, reduceCtorEq] at hc
    rename_i f
    subst hc
    simp only [pureOp, Option.some.injEq] at hv; subst hv
    refine ⟨_, exec_value (s := Instr.makeFunc (.func f) (first.map ρ') (captured.map ρ')) rfl rfl, ?_⟩
    have e1 : first.map ρ' = ⟨first.toList.map ρ'⟩ := by apply Array.ext'; simp
    have e2 : captured.map ρ' = ⟨captured.toList.map ρ'⟩ := by apply Array.ext'; simp
    rw [e1, e2]
    exact .func f (VsRel.map_ρ fun x hx => hr x (by simp only [AOp.operands, List.mem_append]; exact .inl hx)) (VsRel.map_ρ fun x hx => hr x (by simp only [AOp.operands, List.mem_append]; exact .inr hx))
  | fieldAddr s x f =>
    simp only [cOp] at hc
    split at hc
    · rename_i fs hu
      simp only [Option.bind_eq_some_iff] at hc
      obtain ⟨fd, hf, i, hi, hc⟩ := hc
      split at hc
      · simp at hc
      · rename_i hsz
        simp only [Option.some.injEq] at hc; subst hc
        simp only [pureOp] at hv
        have h1 := hr x (by simp [AOp.operands])
        split at hv
        · rename_i b o e
          rw [e] at h1
          simp only [Option.some.injEq] at hv; subst hv
          obtain ⟨sp, hj, e'⟩ := h1.inv_ptr
          refine ⟨.pointer (some ⟨sp.blk, sp.sh + (o + fd.offset), none⟩), exec_value (s := Instr.fieldAt s (ρ' x) f) rfl ?_, .ptr hj⟩
          rw [e']
          simp [Instr.fieldAt, run_ul hu, hf, Instr.sureAddr, fieldPlace, run_so hi, hsz, Addr.add_none, Nat.add_assoc]
        · simp at hv
    · simp at hc
  | field s x f =>
    simp only [cOp] at hc
    split at hc
    · rename_i fs hu
      simp only [Option.bind_eq_some_iff] at hc
      obtain ⟨fd, hf, hc⟩ := hc
      split at hc
      · rename_i i d hi hd
        simp only [Option.some.injEq] at hc; subst hc
        simp only [pureOp] at hv
        have h1 := hr x (by simp [AOp.operands])
        split at hv
        · rename_i cs e
          rw [e] at h1
          obtain ⟨cs', e', hcs⟩ := h1.inv_agg
          obtain ⟨v', g1, g2⟩ := part_sound (w := w) hi hd hcs hv
          refine ⟨v', exec_value (s := Instr.field s (ρ' x) f) rfl ?_, g2⟩
          rw [e']
          simp [Instr.field, run_ul hu, hf, asAgg, g1]
        · simp at hv
      · simp at hc
    · simp at hc
  | indexAddr t x i =>
    simp only [cOp] at hc
    split at hc
    · rename_i n e hu
      cases hi : P.info? e with
      | none => simp [hi] at hc
      | some inf =>
        simp only [hi, Option.map_some, Option.some.injEq] at hc; subst hc
        simp only [pureOp] at hv
        have h1 := hr x (by simp [AOp.operands])
        have h2 := hr i (by simp [AOp.operands])
        split at hv
        · rename_i n' b o kk k e0 ex ei
          cases e0
          rw [ex] at h1; rw [ei] at h2
          split at hv
          · rename_i hk
            simp only [Option.some.injEq] at hv; subst hv
            obtain ⟨sp, hj, e'⟩ := h1.inv_ptr
            refine ⟨.pointer (some ⟨sp.blk, sp.sh + (o + k.toNat * inf.size), none⟩), exec_value (s := Instr.indexAt t (ρ' x) (ρ' i)) rfl ?_, .ptr hj⟩
            rw [e', h2.inv_int]
            simp [Instr.indexAt, asIntOf, run_ul hu, Instr.sureAddr, hk.1, hk.2, run_so hi, Addr.add_none, Nat.add_assoc]
          · simp at hv
        · rename_i e0 _ _; cases e0
        · simp at hv
    · rename_i e hu
      cases hi : P.info? e with
      | none => simp [hi] at hc
      | some inf =>
        simp only [hi, Option.map_some, Option.some.injEq] at hc; subst hc
        simp only [pureOp] at hv
        have h1 := hr x (by simp [AOp.operands])
        have h2 := hr i (by simp [AOp.operands])
        split at hv
        · rename_i e0 _ _; cases e0
        · rename_i b o n c kk k _ ex ei
          rw [ex] at h1; rw [ei] at h2
          split at hv
          · rename_i hk
            simp only [Option.some.injEq] at hv; subst hv
            rcases h1.inv_slice with ⟨sp, hj, _, _, _, e'⟩ | ⟨sp, c', hj, _, _, _, _, _, e'⟩ | ⟨_, _, _, _, _, hn, _⟩ | ⟨_, hn, _⟩
            · refine ⟨.pointer (some ⟨sp.blk, sp.sh + (o + k.toNat * inf.size), none⟩), exec_value (s := Instr.indexAt t (ρ' x) (ρ' i)) rfl ?_, .ptr hj⟩
              rw [e', h2.inv_int]
              simp [Instr.indexAt, asIntOf, run_ul hu, hk.1, hk.2, run_so hi, Addr.add_none, Nat.add_assoc]
            · refine ⟨.pointer (some ⟨sp.blk, sp.sh + (o + k.toNat * inf.size), none⟩), exec_value (s := Instr.indexAt t (ρ' x) (ρ' i)) rfl ?_, .ptr hj⟩
              rw [e', h2.inv_int]
              simp [Instr.indexAt, asIntOf, run_ul hu, hk.1, hk.2, run_so hi, Addr.add_none, Nat.add_assoc]
            · omega
            · omega
          · simp at hv
        · simp at hv
    · simp at hc
  | index t x i =>
    simp only [cOp] at hc
    split at hc
    · rename_i hu
      simp only [Option.some.injEq] at hc; subst hc
      simp only [pureOp] at hv
      have h1 := hr x (by simp [AOp.operands])
      have h2 := hr i (by simp [AOp.operands])
      split at hv
      · rename_i s kk k ex ei
        rw [ex] at h1; rw [ei] at h2
        split at hv
        · rename_i hk
          split at hv
          · rename_i b hb
            simp only [Option.some.injEq] at hv; subst hv
            refine ⟨_, exec_value (s := Instr.index t (ρ' x) (ρ' i)) rfl ?_, .int _ _⟩
            rw [h1.inv_str, h2.inv_int]
            simp [Instr.index, asIntOf, run_ul hu, hk, hb]
          · simp at hv
        · simp at hv
      · simp at hv
    · rename_i n e hu
      split at hc
      · rename_i inf d hi hd
        simp only [Option.some.injEq] at hc; subst hc
        simp only [pureOp] at hv
        have h1 := hr x (by simp [AOp.operands])
        have h2 := hr i (by simp [AOp.operands])
        split at hv
        · rename_i cs kk k ex ei
          rw [ex] at h1; rw [ei] at h2
          split at hv
          · rename_i hk
            obtain ⟨cs', e', hcs⟩ := h1.inv_agg
            obtain ⟨v', g1, g2⟩ := part_sound (w := w) hi hd hcs hv
            refine ⟨v', exec_value (s := Instr.index t (ρ' x) (ρ' i)) rfl ?_, g2⟩
            rw [e', h2.inv_int]
            simp [Instr.index, asIntOf, run_ul hu, hk.1, hk.2, run_so hi, g1]
          · simp at hv
        · simp at hv
      · simp at hc
    · simp at hc
  | slice t x lo hi mx =>
    simp only [cOp] at hc
    have key : ∀ n e, (P.underlying t = some (.array n e) ∨ ∃ q, P.underlying t = some (.pointer q) ∧ P.underlying q = some (.array n e)) →
        (if mx.isSome = true ∨ 65536 < n then none else (P.info? e).map fun i => AOp.sliceArr n i.size x lo hi) = some a →
        ∃ v', (execOp ρ' ⟨dst, .slice t x lo hi mx, type, pos, after, guard⟩).run P w = .ok (.value v') w ∧ VRel j v v' := by
      intro n e hu hc'
      split at hc'
      · simp at hc'
      · rename_i hm
        simp only [not_or, Bool.not_eq_true, Option.isSome_eq_false_iff, Option.isNone_iff_eq_none] at hm
        obtain ⟨rfl, hn⟩ := hm
        simp only [Option.map_eq_some_iff] at hc'
        obtain ⟨i, hi0, rfl⟩ := hc'
        simp only [pureOp] at hv
        have hx := hr x (by simp [AOp.operands])
        obtain ⟨v', g1, g2⟩ := sliceArr_sound (w := w) hi0 (by unfold openCap; omega) hu hv hx (ORel.ev (ρ' := ρ') fun y hy => hr y (by simp only [AOp.operands, List.mem_cons, List.mem_append]; exact .inr (.inl hy))) (ORel.ev (ρ' := ρ') fun y hy => hr y (by simp only [AOp.operands, List.mem_cons, List.mem_append]; exact .inr (.inr hy)))
        exact ⟨v', exec_value (s := Instr.sliceAt t (ρ' x) (lo.map ρ') (hi.map ρ') none) rfl g1, g2⟩
    split at hc
    · simp only [Option.map_eq_some_iff] at hc
      obtain ⟨i, _, rfl⟩ := hc
      simp [pureOp] at hv
    · rename_i hu
      split at hc
      · simp at hc
      · rename_i hm
        have hm : mx = none := by simpa using hm
        subst hm
        simp only [Option.some.injEq] at hc; subst hc
        simp only [pureOp] at hv
        have hx := hr x (by simp [AOp.operands])
        obtain ⟨v', g1, g2⟩ := sliceStr_sound (w := w) hu hv hx (ORel.ev (ρ' := ρ') fun y hy => hr y (by simp only [AOp.operands, List.mem_cons, List.mem_append]; exact .inr (.inl hy))) (ORel.ev (ρ' := ρ') fun y hy => hr y (by simp only [AOp.operands, List.mem_cons, List.mem_append]; exact .inr (.inr hy)))
        exact ⟨v', exec_value (s := Instr.sliceAt t (ρ' x) (lo.map ρ') (hi.map ρ') none) rfl g1, g2⟩
    · rename_i n e hu
      exact key n e (.inl hu) hc
    · rename_i q hu
      split at hc
      · rename_i n e hu'
        exact key n e (.inr ⟨q, hu, hu'⟩) hc
      · simp at hc
    · simp at hc
  | nilCheck x =>
    simp only [cOp, Option.some.injEq] at hc; subst hc
    simp only [pureOp] at hv
    have h1 := hr x (by simp [AOp.operands])
    split at hv
    · rename_i a e
      rw [e] at h1
      simp only [Option.some.injEq] at hv; subst hv
      obtain ⟨a', e'⟩ := h1.inv_ptr'
      rw [e'] at h1
      exact ⟨_, by simp [execOp, e'], h1⟩
    · rename_i f a b e
      rw [e] at h1
      simp only [Option.some.injEq] at hv; subst hv
      obtain ⟨fn', a', c', e', hne⟩ := h1.inv_func
      rw [e'] at h1
      refine ⟨_, ?_, h1⟩
      cases fn' <;> first | exact absurd rfl (hne _) | simp [execOp, e']
    · rename_i f a b e
      rw [e] at h1
      simp only [Option.some.injEq] at hv; subst hv
      obtain ⟨fn', a', c', e', hne⟩ := h1.inv_func
      rw [e'] at h1
      refine ⟨_, ?_, h1⟩
      cases fn' <;> first | exact absurd rfl (hne _) | simp [execOp, e']
    · simp at hv
  | extract x i =>
    simp only [cOp, Option.some.injEq] at hc; subst hc
    simp only [pureOp] at hv
    have h1 := hr x (by simp [AOp.operands])
    split at hv
    · rename_i vs e
      rw [e] at h1
      obtain ⟨vs', e', hvs⟩ := h1.inv_tuple
      obtain ⟨v', g1, g2⟩ := hvs.get hv
      refine ⟨v', exec_value (s := Instr.extract (ρ' x) i) rfl ?_, g2⟩
      rw [e']
      have : vs'[i]? = some v' := by simpa using g1
      simp [Instr.extract, this]
    · simp at hv
  | makeInterface t x =>
    simp only [cOp] at hc
    split at hc
    · simp at hc
    · simp at hc
    · rename_i hn1 hn2
      simp only [Option.some.injEq] at hc; subst hc
      simp only [pureOp, Option.some.injEq] at hv; subst hv
      have h1 := hr x (by simp [AOp.operands])
      cases hu : P.underlying t with
      | none => exact absurd hu hn2
      | some d =>
        refine ⟨_, exec_value (s := Instr.makeInterface t (ρ' x)) rfl ?_, .iface t h1⟩
        simp only [Instr.makeInterface, Sem.run_bind, run_ul hu, Result.andThen_ok]
        cases d <;> first | rfl | exact absurd hu (hn1 _)
  | call c =>
    obtain ⟨callee, args, argTypes⟩ := c
    simp only [cOp] at hc
    split at hc
    · simp only [Option.some.injEq] at hc; subst hc; simp [pureOp] at hv
    · simp at hc
    · rename_i b
      split at hc
      · rename_i x t hargs htys
        have ea : args = #[x] := Array.ext' hargs
        have et : argTypes = #[t] := Array.ext' htys
        subst ea et
        have key : ∀ n : Int, (Builtin.len_ #[t] type #[ρ' x]).run P w = .ok (goInt n) w → (execOp ρ' ⟨dst, .call ⟨.builtin .len, #[x], #[t]⟩, type, pos, after, guard⟩).run P w = .ok (.value (.int .i64 n)) w := by
          intro n h
          simp [execOp, resolve, invoke, builtin, h, goInt]
        split at hc
        · rename_i hu
          simp only [Option.some.injEq] at hc; subst hc
          have h1 := hr x (by simp [AOp.operands])
          simp only [pureOp] at hv
          split at hv
          · rename_i s _ e
            simp only [Option.some.injEq] at hv; subst hv
            rw [e] at h1
            exact ⟨_, key _ (by rw [h1.inv_str]; simp [Builtin.len_, run_ul hu]), .int _ _⟩
          · rename_i e0 _; cases e0
          · simp at hv
        · rename_i el hu
          simp only [Option.some.injEq] at hc; subst hc
          have h1 := hr x (by simp [AOp.operands])
          simp only [pureOp] at hv
          split at hv
          · rename_i e0 _; cases e0
          · rename_i ad n c _ e
            simp only [Option.some.injEq] at hv; subst hv
            rw [e] at h1
            refine ⟨_, key _ ?_, .int _ _⟩
            cases ad with
            | none =>
              obtain ⟨rfl, rfl, e'⟩ := h1.inv_snil
              rw [e']; simp [Builtin.len_, run_ul hu]
            | some ad =>
              rcases h1.inv_slice with ⟨_, _, _, _, _, e'⟩ | ⟨_, _, _, _, _, _, _, _, e'⟩ | ⟨_, _, _, _, _, hn, _, e'⟩ | ⟨_, hn, _, e'⟩
              · rw [e']; simp [Builtin.len_, run_ul hu]
              · rw [e']; simp [Builtin.len_, run_ul hu]
              · rw [e', hn]; simp [Builtin.len_, run_ul hu]
              · rw [e', hn]; simp [Builtin.len_, run_ul hu]
          · simp at hv
        · rename_i n e hu
          simp only [Option.some.injEq] at hc; subst hc
          simp only [pureOp, Option.some.injEq] at hv; subst hv
          exact ⟨_, key _ (by simp [Builtin.len_, run_ul hu]), .int _ _⟩
        · rename_i q hu
          split at hc
          · rename_i n e hu'
            simp only [Option.some.injEq] at hc; subst hc
            simp only [pureOp, Option.some.injEq] at hv; subst hv
            exact ⟨_, key _ (by simp [Builtin.len_, run_ul hu, run_ul hu']), .int _ _⟩
          · simp at hc
        · simp only [Option.some.injEq] at hc; subst hc; simp [pureOp] at hv
        · simp at hc
      · split at hc
        · split at hc <;> simp at hc <;> (subst hc; simp [pureOp] at hv)
        · simp at hc
      · split at hc
        · simp only [Option.map_eq_some_iff] at hc
          obtain ⟨_, _, rfl⟩ := hc
          simp [pureOp] at hv
        · simp at hc
      · split at hc
        · split at hc <;> simp at hc
          subst hc; simp [pureOp] at hv
        · simp at hc
      · rename_i x y hargs
        have ea : args = #[x, y] := Array.ext' hargs
        subst ea
        simp only [Option.some.injEq] at hc; subst hc
        have h1 := hr x (by simp [AOp.operands])
        have h2 := hr y (by simp [AOp.operands])
        simp only [pureOp] at hv
        split at hv
        · rename_i k p k' q ex ey
          rw [ex] at h1; rw [ey] at h2
          simp only [Option.some.injEq] at hv; subst hv
          refine ⟨_, ?_, .int _ _⟩
          simp [execOp, resolve, invoke, builtin, Builtin.min_, Builtin.min2, h1.inv_int, h2.inv_int]
        · simp at hv
      · rename_i x y hargs
        have ea : args = #[x, y] := Array.ext' hargs
        subst ea
        simp only [Option.some.injEq] at hc; subst hc
        have h1 := hr x (by simp [AOp.operands])
        have h2 := hr y (by simp [AOp.operands])
        simp only [pureOp] at hv
        split at hv
        · rename_i k p k' q ex ey
          rw [ex] at h1; rw [ey] at h2
          simp only [Option.some.injEq] at hv; subst hv
          refine ⟨_, ?_, .int _ _⟩
          simp [execOp, resolve, invoke, builtin, Builtin.max_, Builtin.max2, h1.inv_int, h2.inv_int]
        · simp at hv
      · simp at hc
  | alloc t => simp only [cOp, Option.map_eq_some_iff] at hc; obtain ⟨_, _, rfl⟩ := hc; simp [pureOp] at hv
  | box t x => simp only [cOp, Option.some.injEq] at hc; subst hc; simp [pureOp] at hv
  | load t x => simp only [cOp, Option.map_eq_some_iff] at hc; obtain ⟨_, _, rfl⟩ := hc; simp [pureOp] at hv
  | store t x y => simp only [cOp, Option.map_eq_some_iff] at hc; obtain ⟨_, _, rfl⟩ := hc; simp [pureOp] at hv
  | panic x => simp only [cOp, Option.some.injEq] at hc; subst hc; simp [pureOp] at hv
  | entry x => simp only [cOp, Option.some.injEq] at hc; subst hc; simp [pureOp] at hv
  | next x s => cases s <;> simp only [cOp, Option.some.injEq, reduceCtorEq] at hc; subst hc; simp [pureOp] at hv
  | makeMap t r => cases r <;> simp only [cOp, reduceCtorEq] at hc; split at hc <;> simp at hc; subst hc; simp [pureOp] at hv
  | range t x => simp only [cOp] at hc; split at hc <;> simp at hc; subst hc; simp [pureOp] at hv
  | lookup t m k ok =>
    simp only [cOp] at hc
    split at hc
    · split at hc
      · simp only [Option.some.injEq] at hc; subst hc; simp [pureOp] at hv
      · simp at hc
    · simp at hc
  | mapUpdate t m k x =>
    simp only [cOp] at hc
    split at hc
    · simp only [Option.map_eq_some_iff] at hc; obtain ⟨_, _, rfl⟩ := hc; simp [pureOp] at hv
    · simp at hc
  | insert t m k x =>
    simp only [cOp] at hc
    split at hc
    · simp only [Option.map_eq_some_iff] at hc; obtain ⟨_, _, rfl⟩ := hc; simp [pureOp] at hv
    · simp at hc
  | buildSlice t n ps =>
    simp only [cOp] at hc
    split at hc
    · split at hc
      · split at hc <;> simp at hc
        subst hc; simp [pureOp] at hv
      · simp at hc
    · simp at hc
  | makeSlice t l c =>
    simp only [cOp] at hc
    split at hc
    · split at hc
      · split at hc <;> simp at hc
        subst hc; simp [pureOp] at hv
      · simp at hc
    · simp at hc
  | _ => simp [cOp] at hc

end
end Ab
