/- Facts of closed calls, used at any heap. -/
import Derived.Test.YtfcpgeanbklleaaGreatDoorSound
import Derived.Test.YtfcpgeanbklleaaGreatDoorFast3
set_option linter.unusedSectionVars false
set_option linter.unusedSimpArgs false
set_option linter.unusedVariables false
namespace Ab
open Go

/-- Does a value name only blocks of a list? (Values that have no depth.) -/
def refs0 (dom : List Nat) : Value → Bool
  | .bool _ | .int _ _ | .string _ | .pointer none | .slice none 0 0 | .map none | .nilFunc | .nilIface => true
  | .pointer (some ⟨b, _, none⟩) => dom.contains b
  | .slice (some ⟨b, _, none⟩) _ c => dom.contains b && decide (c < openCap)
  | _ => false

def refs1 (dom : List Nat) : Value → Bool
  | .agg cs => cs.toList.all (refs0 dom)
  | v => refs0 dom v

/-- A value that names no block. -/
def closedV : Value → Bool
  | .bool _ | .int _ _ => true
  | .tuple cs => cs.toList.all fun
    | .bool _ | .int _ _ => true
    | _ => false
  | _ => false

structure Fact where
  f : FuncId
  args : List Value
  bs : List (Nat × Nat × List Value)
  v : Value

def Fact.dom (φ : Fact) : List Nat := φ.bs.map (·.1)

/-- The blocks of a fact are in a heap. -/
def Fact.at (φ : Fact) (H : Heap) : Prop := ∀ b e cs, (b, e, cs) ∈ φ.bs → ∃ ro, H.get b = some (.cells ro e cs)

def Fact.heap (φ : Fact) (size : Nat) : Heap := ⟨fun i => (φ.bs.find? fun p => p.1 == i).map fun p => .cells true p.2.1 p.2.2, size⟩

/-- A fact is well formed: its blocks lie below a size, those of the globals are among them. -/
def Fact.ok (φ : Fact) (ng size : Nat) : Bool :=
  φ.args.all (refs1 φ.dom) && φ.bs.all (fun p => p.2.2.all (refs0 φ.dom) && decide (p.1 < size)) && (List.range ng).all (fun g => φ.dom.contains g) && closedV φ.v

section
variable {P : Program}

def cut (dom : List Nat) (j : Inj) : Inj := fun i => if dom.contains i then j i else none

theorem refs0_cut {dom : List Nat} {j : Inj} : ∀ {v v' : Value}, refs0 dom v = true → VRel j v v' → VRel (cut dom j) v v' := by
  intro v v' h hv
  cases hv with
  | bool b => exact .bool b
  | int k n => exact .int k n
  | str s => exact .str s
  | nilPtr => exact .nilPtr
  | ptr hb => exact .ptr (by simp only [refs0] at h; simp only [cut, h, if_true]; exact hb)
  | nilSlice => exact .nilSlice
  | exact hb hc hl => exact .exact (by simp only [refs0, Bool.and_eq_true] at h; simp only [cut, h.1, if_true]; exact hb) hc hl
  | opn hb hl hc => simp [refs0] at h
  | emp hb ho => simp [refs0] at h
  | empx => rename_i a a'; obtain ⟨b, o, p⟩ := a; cases p <;> first | exact .empx | simp [refs0] at h
  | nilMap => exact .nilMap
  | map hb => simp [refs0] at h
  | func f _ _ => simp [refs0] at h
  | yield _ => simp [refs0] at h
  | nilFunc => exact .nilFunc
  | nilIface => exact .nilIface
  | iface t _ => simp [refs0] at h
  | agg _ => simp [refs0] at h
  | tuple _ => simp [refs0] at h

theorem refs0s_cut {dom : List Nat} {j : Inj} : ∀ {l l' : List Value}, l.all (refs0 dom) = true → VsRel j l l' → VsRel (cut dom j) l l'
  | [], _, _, .nil => .nil
  | _ :: _, _, h, .cons hv t => by
    simp only [List.all_cons, Bool.and_eq_true] at h
    exact .cons (refs0_cut h.1 hv) (refs0s_cut h.2 t)

theorem refs1_cut {dom : List Nat} {j : Inj} {v v' : Value} (h : refs1 dom v = true) (hv : VRel j v v') : VRel (cut dom j) v v' := by
  unfold refs1 at h
  split at h
  · cases hv with
    | agg hs => exact .agg (refs0s_cut h hs)
  · exact refs0_cut h hv

theorem refs1s_cut {dom : List Nat} {j : Inj} : ∀ {l l' : List Value}, l.all (refs1 dom) = true → VsRel j l l' → VsRel (cut dom j) l l'
  | [], _, _, .nil => .nil
  | _ :: _, _, h, .cons hv t => by
    simp only [List.all_cons, Bool.and_eq_true] at h
    exact .cons (refs1_cut h.1 hv) (refs1s_cut h.2 t)

theorem closedV_rel {v v' : Value} {j j' : Inj} (h : closedV v = true) (hv : VRel j v v') : VRel j' v v' := by
  have key : ∀ {l l' : List Value}, (l.all fun
    | .bool _ | .int _ _ => true
    | _ => false) = true → VsRel j l l' → VsRel j' l l' := by
    intro l
    induction l with
    | nil => intro l' _ hl; cases hl; exact .nil
    | cons x l ih =>
      intro l' h hl
      cases hl with
      | cons hv t =>
        simp only [List.all_cons, Bool.and_eq_true] at h
        refine .cons ?_ (ih h.2 t)
        cases hv <;> first | exact .bool _ | exact .int _ _ | simp at h
  cases hv <;> first | exact .bool _ | exact .int _ _ | skip
  all_goals first | (simp [closedV] at h; done) | skip
  rename_i hs
  exact .tuple (key h hs)

theorem find_mem {bs : List (Nat × Nat × List Value)} {i : Nat} {p : Nat × Nat × List Value} (h : bs.find? (fun p => p.1 == i) = some p) : p ∈ bs ∧ p.1 = i := by
  refine ⟨List.mem_of_find?_eq_some h, ?_⟩
  have := List.find?_some h
  simpa using this

/-- A FACT OF A CLOSED CALL HOLDS AT EVERY HEAP THAT HAS ITS BLOCKS. -/
theorem fact_conc {φ : Fact} {size : Nat} (hok : φ.ok P.globals.size size = true) (h : Conc P (.fn φ.f) φ.args (φ.heap size) fun v _ => v = φ.v) {H : Heap} {R : Value → Heap → Prop} (hat : φ.at H) (hR : R φ.v H) : Conc P (.fn φ.f) φ.args H R := by
  simp only [Fact.ok, Bool.and_eq_true] at hok
  obtain ⟨⟨⟨ok1, ok2⟩, ok3⟩, ok4⟩ := hok
  refine ⟨h.1, fun j w cargs hs hargs cs => ?_⟩
  have hs0 : Sim P (cut φ.dom j) (φ.heap size) w := by
    refine ⟨?_, ?_, ?_, ?_, ?_⟩
    · intro i hi
      show (φ.bs.find? fun p => p.1 == i).map _ = none
      cases hf : φ.bs.find? fun p => p.1 == i with
      | none => rfl
      | some p =>
        obtain ⟨h1, h2⟩ := find_mem hf
        have := List.all_eq_true.1 ok2 p h1
        simp only [Bool.and_eq_true, decide_eq_true_eq] at this
        have h3 : size ≤ i := hi
        omega
    · intro g hg
      obtain ⟨s, h1, h2, h3⟩ := hs.glob g hg
      refine ⟨s, ?_, h2, h3⟩
      have := List.all_eq_true.1 ok3 g (List.mem_range.2 hg)
      simp only [cut, this, if_true]; exact h1
    · intro b s hb
      unfold cut at hb
      split at hb
      · rename_i hd
        refine ⟨?_, (hs.dom b s hb).2⟩
        show b < size
        have hm : b ∈ φ.dom := by simpa using hd
        obtain ⟨p, h1, h2⟩ := List.mem_map.1 hm
        have := List.all_eq_true.1 ok2 p h1
        simp only [Bool.and_eq_true, decide_eq_true_eq] at this
        omega
      · cases hb
    · intro b b' s s' x x' _ _ hx _ hr
      have hx' : (φ.bs.find? fun p => p.1 == b).map (fun p => Blk.cells true p.2.1 p.2.2) = some x := hx
      cases hf : φ.bs.find? fun p => p.1 == b with
      | none => rw [hf] at hx'; cases hx'
      | some p => rw [hf] at hx'; cases hx'; cases hr
    · intro b s x hb hx
      have hx' : (φ.bs.find? fun p => p.1 == b).map (fun p => Blk.cells true p.2.1 p.2.2) = some x := hx
      cases hf : φ.bs.find? fun p => p.1 == b with
      | none => rw [hf] at hx'; cases hx'
      | some p =>
        rw [hf] at hx'
        cases hx'
        obtain ⟨h1, h2⟩ := find_mem hf
        obtain ⟨ro, h3⟩ := hat p.1 p.2.1 p.2.2 h1
        have hjb : j b = some s := by
          unfold cut at hb
          split at hb
          · exact hb
          · cases hb
        rw [h2] at h3
        obtain ⟨c, t, fz, g1, g2, g3, g4⟩ := hs.blk b s _ hjb h3
        refine ⟨c, t, fz, g1, g2, fun i v hv => ?_, fun h => by cases h⟩
        obtain ⟨v', g5, g6⟩ := g3 i v hv
        refine ⟨v', g5, refs0_cut ?_ g6⟩
        have := List.all_eq_true.1 ok2 p h1
        simp only [Bool.and_eq_true] at this
        exact List.all_eq_true.1 this.1 v (List.mem_of_getElem? hv)
  obtain ⟨v, H', j', cv, w', fr, k1, k2, k3, k4, k5, k6, k7⟩ := h.2 _ w cargs hs0 (refs1s_cut ok1 hargs) cs
  subst k1
  have hsame : ∀ r, r < w.heap.size → w'.heap[r]? = w.heap[r]? := by
    intro r hr
    refine k4.keep.same r hr ?_
    intro b s x _ hx hrw
    have hx' : (φ.bs.find? fun p => p.1 == b).map (fun p => Blk.cells true p.2.1 p.2.2) = some x := hx
    cases hf : φ.bs.find? fun p => p.1 == b with
    | none => rw [hf] at hx'; cases hx'
    | some p => rw [hf] at hx'; cases hx'; cases hrw
  refine ⟨φ.v, H, j, cv, w', fr, hR, closedV_rel ok4 k2, ?_, Step.grow j H k4.keep.size hsame k4.keep.tape k4.keep.os k4.keep.output, k5, k6, k7⟩
  exact ⟨hs.wf, hs.glob, fun b s hb => ⟨(hs.dom b s hb).1, Nat.lt_of_lt_of_le (hs.dom b s hb).2 k4.keep.size⟩, hs.inj, fun b s x h1 h2 => by
    rw [hsame s.blk (hs.dom b s h1).2]; exact hs.blk b s x h1 h2⟩

end

/-- The base of some facts. -/
def BFacts (l : List Fact) : CallPred := fun t args H R => ∃ φ ∈ l, t = .fn φ.f ∧ args = φ.args ∧ φ.at H ∧ R φ.v H

theorem BFacts.mono (l : List Fact) : BaseMono (BFacts l) := by
  rintro t args H R R' h ⟨φ, h1, h2, h3, h4, h5⟩
  exact ⟨φ, h1, h2, h3, h4, h _ _ h5⟩

theorem BFacts.sound {P : Program} {l : List Fact} {size : Nat} (h : ∀ φ ∈ l, φ.ok P.globals.size size = true ∧ Conc P (.fn φ.f) φ.args (φ.heap size) fun v _ => v = φ.v) {t : Tgt} {args : List Value} {H : Heap} {R : Value → Heap → Prop} (hb : BFacts l t args H R) : Conc P t args H R := by
  obtain ⟨φ, h1, rfl, rfl, h4, h5⟩ := hb
  exact fact_conc (h φ h1).1 (h φ h1).2 h4 h5

/-! ### The heap of a fact, for the evaluator -/

noncomputable section
def emptyT : FT := R8.all (R8.all (R8.all (R8.all (R8.all .none))))
def fhT (bs : List (Nat × Nat × List Value)) : FT :=
  List.rec (motive := fun _ => FT) emptyT (fun p _ ih => FT.put p.1 (.cells true p.2.1 (p.2.2.map of0)) ih) bs
def Fact.fh (φ : Fact) (size : Nat) : FH := ⟨fhT φ.bs, size⟩
end

theorem emptyT_get (i : Nat) : emptyT.get i = .none := by
  have key : ∀ {α : Type} (x : α) n, R8.get n (R8.all x) = x := by
    intro α x n; match n with
    | 0 | 1 | 2 | 3 | 4 | 5 | 6 | _ + 7 => rfl
  unfold FT.get emptyT
  rw [key, key, key, key, key]

theorem fhT_get : ∀ {bs : List (Nat × Nat × List Value)} {i : Nat}, (∀ p ∈ bs, p.1 < 32768) → i < 32768 → ((fhT bs).get i).blk = (bs.find? fun p => p.1 == i).map fun p => .cells true p.2.1 p.2.2
  | [], i, _, _ => by
    show (emptyT.get i).blk = _
    rw [emptyT_get]; rfl
  | p :: bs, i, h, hi => by
    show ((FT.put p.1 (.cells true p.2.1 (p.2.2.map of0)) (fhT bs)).get i).blk = _
    rw [FT.get_put (h p (by simp)) _ _ hi]
    by_cases hp : i = p.1
    · subst hp
      simp [FBk.blk, vs_map0]
    · have : (p.1 == i) = false := by simp [Ne.symm hp]
      rw [if_neg hp, List.find?_cons, this]
      exact fhT_get (fun q hq => h q (by simp [hq])) hi

theorem Fact.fh_heap (φ : Fact) {size : Nat} (h : ∀ p ∈ φ.bs, p.1 < size) (hs : size ≤ 32768) : (φ.fh size).heap = φ.heap size := by
  refine heap_ext (fun i => ?_) rfl
  show (if i < 32768 then ((fhT φ.bs).get i).blk else none) = (φ.bs.find? fun p => p.1 == i).map fun p => .cells true p.2.1 p.2.2
  split
  · rename_i hi
    exact fhT_get (fun p hp => Nat.lt_of_lt_of_le (h p hp) hs) hi
  · rename_i hi
    cases hf : φ.bs.find? fun p => p.1 == i with
    | none => rfl
    | some p =>
      obtain ⟨h1, h2⟩ := find_mem hf
      have := h p h1
      omega

/-- A FACT BY THE KERNEL. -/
theorem fact_of {P : Program} (hmix : P.follows .mixedOrders = true) {AP : AProg} (hAP : Agrees P AP) {B : CallPred} (hm : BaseMono B) (hB : ∀ t args H R, B t args H R → Conc P t args H R) {orc : Orc} (ho : OrcOk B orc) {φ : Fact} {size n ng : Nat}
    (hok : φ.ok ng size = true) (hs : size ≤ 32768) (e : isV (((runN AP orc n).fn φ.f).run (φ.args.map of1) (φ.fh size)) (of2 φ.v) = true) : Conc P (.fn φ.f) φ.args (φ.heap size) fun v _ => v = φ.v := by
  have h1 := closed_call hm ho e
  rw [vs_map1, of2_v, φ.fh_heap (fun p hp => by
    simp only [Fact.ok, Bool.and_eq_true] at hok
    have := List.all_eq_true.1 hok.1.1.2 p hp
    simp only [Bool.and_eq_true, decide_eq_true_eq] at this
    exact this.2) hs] at h1
  exact acall_sound hmix hAP hB h1

/-! ### An oracle of facts -/

noncomputable section
/-- Is a block of the heap as a fact says? -/
def blkF (h : FH) (b e : Nat) (cs : List FV) (k : Out) : Out :=
  hget h b fun x => onC x (fun _ e' cs' => Bool.rec (motive := fun _ => Out) .bad (sameL cs' cs k) (Nat.beq e' e)) .bad

def blksF (h : FH) (bs : List (Nat × Nat × List Value)) (k : Out) : Out :=
  List.rec (motive := fun _ => Out) k (fun p _ ih => blkF h p.1 p.2.1 (p.2.2.map of0) ih) bs

/-- Values that have a depth of one. -/
def same1 (x y : FV) (k : Out) : Out :=
  fvRec (fun _ => sameF x y k) (fun _ => sameF x y k) (fun _ _ => sameF x y k) (fun _ _ _ _ => sameF x y k) (fun l => onA y (fun m => sameL l m k) .bad) (fun _ => .bad) (fun _ => sameF x y k) x

def same1s (l m : List FV) (k : Out) : Out :=
  List.rec (motive := fun _ => List FV → Out) (fun m => List.rec (motive := fun _ => Out) k (fun _ _ _ => .bad) m) (fun x _ ih m => List.rec (motive := fun _ => Out) .bad (fun y m _ => same1 x y (ih m)) m) l m

/-- Is it bad? Then the other. -/
def orElse (o a : Out) : Out := Out.rec (motive := fun _ => Out) a (fun e E h => .ok e E h) (fun v h => .val v h) o

/-- The first fact that fits; else the call itself. -/
def factsF (l : List Fact) (args : List FV) (h : FH) (o : Out) (k : FV → Out) : Out :=
  List.rec (motive := fun _ => Out) o (fun φ _ ih => orElse (same1s args (φ.args.map of1) (blksF h φ.bs (k (of2 φ.v)))) ih) l

def orcOf (l : List Fact) : Orc := fun f => match l.filter (fun φ => Nat.beq φ.f f) with
  | [] => none
  | m => some (factsF m)
end

theorem blkF_ok {h : FH} {b e : Nat} {cs : List FV} {k r : Out} (x : blkF h b e cs k = r) (hr : r ≠ .bad) : (∃ ro, h.heap.get b = some (.cells ro e (FV.vs cs))) ∧ k = r := by
  obtain ⟨_, h1, h2⟩ := hget_ok x hr
  obtain ⟨ro, n, l, h3, h4⟩ := onC_ok h1 hr
  obtain ⟨h5, h6⟩ := bool_ok h4 hr
  obtain ⟨h7, h8⟩ := sameL_ok h6 hr
  rw [h3] at h2
  exact ⟨⟨ro, by rw [h2, FBk.blk, Nat.eq_of_beq_eq_true h5, h7]⟩, h8⟩

theorem blksF_ok {h : FH} : ∀ {bs : List (Nat × Nat × List Value)} {k r : Out}, blksF h bs k = r → r ≠ .bad → (∀ b e cs, (b, e, cs) ∈ bs → ∃ ro, h.heap.get b = some (.cells ro e cs)) ∧ k = r
  | [], _, _, e, _ => ⟨(fun _ _ _ h => by cases h), e⟩
  | p :: bs, k, r, e, hr => by
    obtain ⟨h1, h2⟩ := blkF_ok (show blkF h p.1 p.2.1 (p.2.2.map of0) (blksF h bs k) = r from e) hr
    obtain ⟨h3, h4⟩ := blksF_ok h2 hr
    refine ⟨fun b e cs hm => ?_, h4⟩
    rcases List.mem_cons.1 hm with hm | hm
    · rw [vs_map0] at h1; cases hm; exact h1
    · exact h3 b e cs hm

theorem same1_ok {x y : FV} {k r : Out} (e : same1 x y k = r) (hr : r ≠ .bad) : x.v = y.v ∧ k = r := by
  cases x with
  | fa l =>
    rcases onA_ok (show onA y (fun m => sameL l m k) .bad = r from e) hr with ⟨m, rfl, h2⟩ | h2
    · obtain ⟨h3, h4⟩ := sameL_ok h2 hr
      exact ⟨by simp only [FV.v, h3], h4⟩
    · exact absurd h2.symm hr
  | ft l => exact absurd e.symm hr
  | _ => exact sameF_ok e hr

theorem same1s_ok : ∀ {l m : List FV} {k r : Out}, same1s l m k = r → r ≠ .bad → FV.vs l = FV.vs m ∧ k = r
  | [], [], _, _, e, _ => ⟨rfl, e⟩
  | [], _ :: _, _, _, e, hr => absurd e.symm hr
  | _ :: _, [], _, _, e, hr => absurd e.symm hr
  | x :: l, y :: m, k, r, e, hr => by
    obtain ⟨h1, h2⟩ := same1_ok (k := same1s l m k) e hr
    obtain ⟨h3, h4⟩ := same1s_ok h2 hr
    exact ⟨by rw [FV.vs, FV.vs, h1, h3], h4⟩

theorem orElse_ok {o a r : Out} (e : orElse o a = r) (hr : r ≠ .bad) : o = r ∨ a = r := by
  cases o with
  | bad => exact .inr e
  | ok x E h => exact .inl e
  | val v h => exact .inl e

theorem factsF_ok {args : List FV} {h : FH} {o : Out} {k : FV → Out} {r : Out} : ∀ {l : List Fact}, factsF l args h o k = r → r ≠ .bad → o = r ∨ ∃ φ ∈ l, FV.vs args = φ.args ∧ φ.at h.heap ∧ k (of2 φ.v) = r
  | [], e, _ => .inl e
  | φ :: l, e, hr => by
    rcases orElse_ok (show orElse (same1s args (φ.args.map of1) (blksF h φ.bs (k (of2 φ.v)))) (factsF l args h o k) = r from e) hr with h1 | h1
    · obtain ⟨h2, h3⟩ := same1s_ok h1 hr
      obtain ⟨h4, h5⟩ := blksF_ok h3 hr
      rw [vs_map1] at h2
      exact .inr ⟨φ, by simp, h2, h4, h5⟩
    · rcases factsF_ok h1 hr with h2 | ⟨ψ, h2, h3⟩
      · exact .inl h2
      · exact .inr ⟨ψ, by simp [h2], h3⟩

theorem orcOf_ok (l : List Fact) : OrcOk (BFacts l) (orcOf l) := by
  intro f g hg args h o k r e hr
  unfold orcOf at hg
  split at hg
  · cases hg
  · cases hg
    rcases factsF_ok e hr with h1 | ⟨φ, h1, h2, h3, h4⟩
    · exact .inl h1
    · refine .inr ⟨of2 φ.v, ⟨φ, (List.mem_filter.1 h1).1, ?_, h2, h3, ?_⟩, h4⟩
      · have := (List.mem_filter.1 h1).2
        rw [Nat.eq_of_beq_eq_true this]
      · rw [of2_v]; exact ⟨rfl, rfl⟩

end Ab
