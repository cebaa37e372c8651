/- How an abstract heap lies in a world: the relation of values and of heaps, and what a run may change. -/
import Derived.Test.YtfcpgeanbklleaaGreatDoorCore
import Derived.Test.YtfcpgeanbklleaaGreatDoorCompile
set_option linter.unusedSectionVars false
set_option linter.unusedSimpArgs false
set_option linter.unusedVariables false
namespace Ab
open Go

mutual
inductive VRel (j : Inj) : Value → Value → Prop
  | bool (b) : VRel j (.bool b) (.bool b)
  | int (k n) : VRel j (.int k n) (.int k n)
  | str (s) : VRel j (.string s) (.string s)
  | nilPtr : VRel j (.pointer none) (.pointer none)
  | ptr {b o : Nat} {s : Spot} : j b = some s → VRel j (.pointer (some ⟨b, o, none⟩)) (.pointer (some ⟨s.blk, s.sh + o, none⟩))
  | nilSlice : VRel j (.slice none 0 0) (.slice none 0 0)
  | exact {b o len cap : Nat} {s : Spot} : j b = some s → cap < openCap → len ≤ cap → VRel j (.slice (some ⟨b, o, none⟩) len cap) (.slice (some ⟨s.blk, s.sh + o, none⟩) len cap)
  | opn {b o len cap : Nat} {s : Spot} : j b = some s → len ≤ cap ∧ cap < openCap → o + cap * s.esz = s.cap → VRel j (.slice (some ⟨b, o, none⟩) len openCap) (.slice (some ⟨s.blk, s.sh + o, none⟩) len cap)
  | emp {b o : Nat} {a : Addr} {s : Spot} : j b = some s → o = s.cap → VRel j (.slice (some ⟨b, o, none⟩) 0 openCap) (.slice (some a) 0 0)
  | empx {a a' : Addr} : VRel j (.slice (some a) 0 0) (.slice (some a') 0 0)
  | nilMap : VRel j (.map none) (.map none)
  | map {r : Nat} {s : Spot} : j r = some s → VRel j (.map (some r)) (.map (some s.blk))
  | func (f) {a a' c c' : List Value} : VsRel j a a' → VsRel j c c' → VRel j (.func (.func f) ⟨a⟩ ⟨c⟩) (.func (.func f) ⟨a'⟩ ⟨c'⟩)
  | yield {l : Nat} {s : Spot} : j l = some s → VRel j (.func (.yield l) #[] #[]) (.func (.yield s.blk) #[] #[])
  | nilFunc : VRel j .nilFunc .nilFunc
  | nilIface : VRel j .nilIface .nilIface
  | iface (t) {v v' : Value} : VRel j v v' → VRel j (.iface t v) (.iface t v')
  | agg {cs cs' : List Value} : VsRel j cs cs' → VRel j (.agg ⟨cs⟩) (.agg ⟨cs'⟩)
  | tuple {cs cs' : List Value} : VsRel j cs cs' → VRel j (.tuple ⟨cs⟩) (.tuple ⟨cs'⟩)
inductive VsRel (j : Inj) : List Value → List Value → Prop
  | nil : VsRel j [] []
  | cons {a b as bs} : VRel j a b → VsRel j as bs → VsRel j (a :: as) (b :: bs)
end

def Inj.le (j j' : Inj) : Prop := ∀ b s, j b = some s → j' b = some s

theorem Inj.le.refl (j : Inj) : j.le j := fun _ _ h => h
theorem Inj.le.trans {j j' j'' : Inj} (h : j.le j') (h' : j'.le j'') : j.le j'' := fun b s hb => h' b s (h b s hb)

mutual
theorem VRel.mono {j j' : Inj} (h : j.le j') : ∀ {a b}, VRel j a b → VRel j' a b
  | _, _, .bool b => .bool b
  | _, _, .int k n => .int k n
  | _, _, .str s => .str s
  | _, _, .nilPtr => .nilPtr
  | _, _, .ptr hb => .ptr (h _ _ hb)
  | _, _, .nilSlice => .nilSlice
  | _, _, .exact hb hc hl => .exact (h _ _ hb) hc hl
  | _, _, .opn hb hl hc => .opn (h _ _ hb) hl hc
  | _, _, .emp hb ha => .emp (h _ _ hb) ha
  | _, _, .empx => .empx
  | _, _, .nilMap => .nilMap
  | _, _, .map hb => .map (h _ _ hb)
  | _, _, .func f ha hc => .func f (VsRel.mono h ha) (VsRel.mono h hc)
  | _, _, .yield hb => .yield (h _ _ hb)
  | _, _, .nilFunc => .nilFunc
  | _, _, .nilIface => .nilIface
  | _, _, .iface t hv => .iface t (VRel.mono h hv)
  | _, _, .agg hs => .agg (VsRel.mono h hs)
  | _, _, .tuple hs => .tuple (VsRel.mono h hs)
theorem VsRel.mono {j j' : Inj} (h : j.le j') : ∀ {a b}, VsRel j a b → VsRel j' a b
  | _, _, .nil => .nil
  | _, _, .cons hv t => .cons (VRel.mono h hv) (VsRel.mono h t)
end

theorem VRel.undef (j : Inj) : VRel j undef undef := .tuple .nil

theorem VsRel.length {j : Inj} : ∀ {a b : List Value}, VsRel j a b → a.length = b.length
  | _, _, .nil => rfl
  | _, _, .cons _ t => by simp [VsRel.length t]

theorem VsRel.get {j : Inj} : ∀ {a b : List Value} {i : Nat} {v : Value}, VsRel j a b → a[i]? = some v → ∃ v', b[i]? = some v' ∧ VRel j v v'
  | _, _, i, v, .nil, h => by simp at h
  | _, _, 0, v, .cons hv _, h => by simp at h; subst h; exact ⟨_, rfl, hv⟩
  | _, _, i + 1, v, .cons _ t, h => by simp at h; simpa using VsRel.get t h

theorem VsRel.of_get {j : Inj} : ∀ {a b : List Value}, a.length = b.length → (∀ (i : Nat) (v v' : Value), a[i]? = some v → b[i]? = some v' → VRel j v v') → VsRel j a b
  | [], [], _, _ => .nil
  | a :: as, b :: bs, hl, h => .cons (h 0 a b rfl rfl) (VsRel.of_get (by simpa using hl) fun i v v' h1 h2 => h (i + 1) v v' (by simpa using h1) (by simpa using h2))
  | [], _ :: _, hl, _ => by simp at hl
  | _ :: _, [], hl, _ => by simp at hl

theorem VsRel.append {j : Inj} : ∀ {a b c d : List Value}, VsRel j a b → VsRel j c d → VsRel j (a ++ c) (b ++ d)
  | _, _, _, _, .nil, h => h
  | _, _, _, _, .cons hv t, h => .cons hv (VsRel.append t h)

theorem VsRel.drop {j : Inj} : ∀ {a b : List Value} (n : Nat), VsRel j a b → VsRel j (a.drop n) (b.drop n)
  | _, _, 0, h => h
  | _, _, _ + 1, .nil => .nil
  | _, _, n + 1, .cons _ t => VsRel.drop n t

theorem VsRel.take {j : Inj} : ∀ {a b : List Value} (n : Nat), VsRel j a b → VsRel j (a.take n) (b.take n)
  | _, _, 0, _ => .nil
  | _, _, _ + 1, .nil => .nil
  | _, _, n + 1, .cons h t => .cons h (VsRel.take n t)

theorem VsRel.set {j : Inj} : ∀ {a b : List Value} (i : Nat) {v v' : Value}, VsRel j a b → VRel j v v' → VsRel j (a.set i v) (b.set i v')
  | _, _, _, _, _, .nil, _ => .nil
  | _, _, 0, _, _, .cons _ t, hv => .cons hv t
  | _, _, i + 1, _, _, .cons h t, hv => .cons h (VsRel.set i t hv)

theorem VsRel.replicate {j : Inj} {v v' : Value} (h : VRel j v v') : ∀ n, VsRel j (List.replicate n v) (List.replicate n v')
  | 0 => .nil
  | n + 1 => .cons h (VsRel.replicate h n)

theorem VsRel.getD {j : Inj} {a b : List Value} (h : VsRel j a b) (i : Nat) : VRel j (a.getD i Ab.undef) (b.getD i Ab.undef) := by
  cases ha : a[i]? with
  | some v =>
    obtain ⟨v', hb, hv⟩ := h.get ha
    simp [List.getD, ha, hb, hv]
  | none =>
    have hb : b[i]? = none := by
      rw [List.getElem?_eq_none_iff] at *
      rw [← h.length]; exact ha
    simp [List.getD, ha, hb]
    exact VRel.undef j

theorem VRel.closedCell (j : Inj) : ∀ {v : Value}, isScalarCell v = true → VRel j v v
  | .bool b, _ => .bool b
  | .int k n, _ => .int k n
  | .string s, _ => .str s
  | .pointer none, _ => .nilPtr
  | .slice none 0 0, _ => .nilSlice
  | .map none, _ => .nilMap
  | .nilFunc, _ => .nilFunc
  | .nilIface, _ => .nilIface

theorem VsRel.closed (j : Inj) : ∀ {l : List Value}, l.all isScalarCell = true → VsRel j l l
  | [], _ => .nil
  | v :: l, h => by
    simp only [List.all_cons, Bool.and_eq_true] at h
    exact .cons (VRel.closedCell j h.1) (VsRel.closed j h.2)

/-! ### Blocks -/

structure ERel (j : Inj) (e e' : MapEntry) : Prop where
  key : VRel j e.key e'.key
  val : VRel j e.val e'.val
  born : e.born = e'.born

inductive EsRel (j : Inj) : List MapEntry → List MapEntry → Prop
  | nil : EsRel j [] []
  | cons {e e' es es'} : ERel j e e' → EsRel j es es' → EsRel j (e :: es) (e' :: es')

theorem EsRel.mono {j j' : Inj} (h : j.le j') : ∀ {a b}, EsRel j a b → EsRel j' a b
  | _, _, .nil => .nil
  | _, _, .cons e t => .cons ⟨e.key.mono h, e.val.mono h, e.born⟩ (EsRel.mono h t)

def MRel (j : Inj) : Option Nat → Option Nat → Prop
  | none, none => True
  | some r, some r' => ∃ s, j r = some s ∧ r' = s.blk
  | _, _ => False

structure LRel (P : Program) (j : Inj) (r : LoopRec) (r' : Loop) : Prop where
  state : r'.state = r.state
  pending : r'.pending = r.pending.map Jump.code
  fn : r'.fn = r.fn
  tmps : VsRel j r.tmps r'.tmps.toList
  params : r'.params.toList = r.params
  assign : cCode P r.tmps.length r'.assign = some r.assign
  body : cCode P r.tmps.length r'.body = some r.body

def BRel (P : Program) (j : Inj) (s : Spot) : Blk → Option Obj → Prop
  | .cells ro esz cs, o => ∃ c t fz, o = some (.cells c t fz) ∧ s.esz = esz ∧ (∀ i v, cs[i]? = some v → ∃ v', c[s.sh + i]? = some v' ∧ VRel j v v') ∧
      (ro = false → fz = (0, 0) ∧ s.sh + s.cap ≤ c.size ∧ cs.length ≤ s.cap)
  | .map es clock, o => s.sh = 0 ∧ ∃ es', o = some (.map es' clock) ∧ EsRel j es es'.toList
  | .iter m since seen stepped, o => s.sh = 0 ∧ ∃ m' seen', o = some (.mapIter m' since seen' stepped) ∧ seen'.toList = seen ∧ MRel j m m'
  | .loop r, o => s.sh = 0 ∧ ∃ r', o = some (.loop r') ∧ LRel P j r r'
  | .dead, _ => True

theorem BRel.mono {P : Program} {j j' : Inj} (h : j.le j') {s : Spot} {b : Blk} {o : Option Obj} (hb : BRel P j s b o) : BRel P j' s b o := by
  cases b with
  | cells ro esz cs =>
    obtain ⟨c, t, fz, ho, he, hc, hr⟩ := hb
    exact ⟨c, t, fz, ho, he, fun i v hv => let ⟨v', h1, h2⟩ := hc i v hv; ⟨v', h1, h2.mono h⟩, hr⟩
  | map es clock =>
    obtain ⟨h0, es', ho, he⟩ := hb
    exact ⟨h0, es', ho, he.mono h⟩
  | iter m since seen stepped =>
    obtain ⟨h0, m', seen', ho, hs, hm⟩ := hb
    refine ⟨h0, m', seen', ho, hs, ?_⟩
    cases m <;> cases m' <;> simp_all [MRel]
    obtain ⟨s', h1, h2⟩ := hm
    exact ⟨s', h _ _ h1, h2⟩
  | loop r =>
    obtain ⟨h0, r', ho, hr⟩ := hb
    exact ⟨h0, r', ho, ⟨hr.state, hr.pending, hr.fn, hr.tmps.mono h, hr.params, hr.assign, hr.body⟩⟩
  | dead => trivial

structure Sim (P : Program) (j : Inj) (H : Heap) (w : World) : Prop where
  wf : ∀ i, H.size ≤ i → H.get i = none
  glob : ∀ g, g < P.globals.size → ∃ s, j g = some s ∧ s.blk = g ∧ s.sh = 0
  dom : ∀ b s, j b = some s → b < H.size ∧ s.blk < w.heap.size
  inj : ∀ b b' s s' x x', j b = some s → j b' = some s' → H.get b = some x → H.get b' = some x' → x.rw = true → x'.alive = true → s.blk = s'.blk → b = b'
  blk : ∀ b s x, j b = some s → H.get b = some x → BRel P j s x (w.heap[s.blk]?)

/-- What has no part in a run: every block of the world but those that writable blocks of the heap lie in. -/
structure Keeps (j : Inj) (H : Heap) (w w' : World) : Prop where
  size : w.heap.size ≤ w'.heap.size
  tape : w'.tape = w.tape
  os : w'.os = w.os
  output : w'.output = w.output
  same : ∀ r, r < w.heap.size → (∀ b s x, j b = some s → H.get b = some x → x.rw = true → s.blk ≠ r) → w'.heap[r]? = w.heap[r]?

/-- A run from one state to another. -/
structure Step (j : Inj) (H : Heap) (w : World) (j' : Inj) (H' : Heap) (w' : World) : Prop where
  sub : j.le j'
  new : ∀ b s, j' b = some s → j b = some s ∨ H.size ≤ b
  evo : ∀ b s x, j' b = some s → H'.get b = some x → x.rw = true → w.heap.size ≤ s.blk ∨ ∃ b0 s0 x0, j b0 = some s0 ∧ H.get b0 = some x0 ∧ x0.rw = true ∧ s0.blk = s.blk
  img : ∀ b s, j' b = some s → w.heap.size ≤ s.blk ∨ ∃ b0 s0, j b0 = some s0 ∧ s0.blk = s.blk
  mono : H.size ≤ H'.size
  keep : Keeps j H w w'

theorem Keeps.refl (j : Inj) (H : Heap) (w : World) : Keeps j H w w := ⟨Nat.le_refl _, rfl, rfl, rfl, fun _ _ _ => rfl⟩

theorem Step.refl (j : Inj) (H : Heap) (w : World) : Step j H w j H w :=
  ⟨.refl j, fun _ _ h => .inl h, fun b s x h1 h2 h3 => .inr ⟨b, s, x, h1, h2, h3, rfl⟩, fun b s h => .inr ⟨b, s, h, rfl⟩, Nat.le_refl _, .refl j H w⟩

theorem Step.trans {j j' j'' : Inj} {H H' H'' : Heap} {w w' w'' : World} (h : Step j H w j' H' w') (h' : Step j' H' w' j'' H'' w'') : Step j H w j'' H'' w'' where
  sub := h.sub.trans h'.sub
  new b s hb := by
    rcases h'.new b s hb with hb' | hb'
    · exact h.new b s hb'
    · exact .inr (Nat.le_trans h.mono hb')
  evo b s x hb hx hr := by
    rcases h'.evo b s x hb hx hr with hb' | ⟨b0, s0, x0, h1, h2, h3, h4⟩
    · exact .inl (Nat.le_trans h.keep.size hb')
    · rcases h.evo b0 s0 x0 h1 h2 h3 with h5 | ⟨b1, s1, x1, h5, h6, h7, h8⟩
      · exact .inl (h4 ▸ h5)
      · exact .inr ⟨b1, s1, x1, h5, h6, h7, h8.trans h4⟩
  img b s hb := by
    rcases h'.img b s hb with h1 | ⟨b0, s0, h1, h2⟩
    · exact .inl (Nat.le_trans h.keep.size h1)
    · rcases h.img b0 s0 h1 with h3 | ⟨b1, s1, h3, h4⟩
      · exact .inl (h2 ▸ h3)
      · exact .inr ⟨b1, s1, h3, h4.trans h2⟩
  mono := Nat.le_trans h.mono h'.mono
  keep := by
    refine ⟨Nat.le_trans h.keep.size h'.keep.size, h'.keep.tape.trans h.keep.tape, h'.keep.os.trans h.keep.os, h'.keep.output.trans h.keep.output, ?_⟩
    intro r hr hn
    rw [h'.keep.same r (Nat.lt_of_lt_of_le hr h.keep.size) ?_]
    · exact h.keep.same r hr hn
    · intro b s x h1 h2 h3 h4
      rcases h.evo b s x h1 h2 h3 with h5 | ⟨b0, s0, x0, h5, h6, h7, h8⟩
      · omega
      · exact hn b0 s0 x0 h5 h6 h7 (h8.trans h4)

end Ab
