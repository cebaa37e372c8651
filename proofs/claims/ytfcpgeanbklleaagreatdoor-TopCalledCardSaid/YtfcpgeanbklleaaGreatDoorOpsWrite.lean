/- Operations that write. -/
import Derived.Test.YtfcpgeanbklleaaGreatDoorOpsNew
set_option linter.unusedSectionVars false
set_option linter.unusedSimpArgs false
set_option linter.unusedVariables false
namespace Ab
open Go

section
variable {P : Program} {j : Inj} {ρ ρ' : Operand → Value} {w w' : World} {H : Heap}

/-- A writable block turns, and nothing else. -/
theorem Sim.change (hs : Sim P j H w) {b : Nat} {s : Spot} {x x' : Blk} (hj : j b = some s) (hg : H.get b = some x) (hrw : x.rw = true) (hsame : ∀ r, r ≠ s.blk → w'.heap[r]? = w.heap[r]?)
    (hsz : w'.heap.size = w.heap.size) (ht : w'.tape = w.tape) (ho : w'.os = w.os) (hout : w'.output = w.output) (hx' : BRel P j s x' (w'.heap[s.blk]?)) :
    Sim P j (H.set b x') w' ∧ Step j H w j (H.set b x') w' := by
  have alive : x.alive = true := by cases x <;> first | rfl | simp [Blk.rw] at hrw
  have old : ∀ b1 x1, (H.set b x').get b1 = some x1 → ∃ x0, H.get b1 = some x0 ∧ (x1.rw = true → x0.rw = true) ∧ (x1.alive = true → x0.alive = true) := by
    intro b1 x1 h
    simp only [Heap.set] at h
    split at h
    · rename_i e; subst e; exact ⟨x, hg, fun _ => hrw, fun _ => alive⟩
    · exact ⟨x1, h, id, id⟩
  refine ⟨⟨by
    intro i hi
    rw [Heap.size_set] at hi
    have := (hs.dom _ _ hj).1
    rw [Heap.get_set, if_neg (by omega)]
    exact hs.wf i hi, hs.glob, ?_, ?_, ?_⟩, ⟨.refl j, fun _ _ h => .inl h, ?_, fun b s h => .inr ⟨b, s, h, rfl⟩, Nat.le_refl _, ⟨by omega, ht, ho, hout, ?_⟩⟩⟩
  · intro b1 s1 h
    have := hs.dom b1 s1 h
    exact ⟨this.1, by rw [hsz]; exact this.2⟩
  · intro b1 b2 s1 s2 x1 x2 h1 h2 g1 g2 r1 r2 he
    obtain ⟨y1, k1, k2, _⟩ := old _ _ g1
    obtain ⟨y2, l1, _, l2⟩ := old _ _ g2
    exact hs.inj b1 b2 s1 s2 y1 y2 h1 h2 k1 l1 (k2 r1) (l2 r2) he
  · intro b1 s1 x1 h1 g1
    simp only [Heap.set] at g1
    split at g1
    · rename_i e; subst e
      rw [hj] at h1; cases h1; cases g1
      exact hx'
    · rename_i hne
      by_cases hd : x1.alive = true
      · have hne' : s1.blk ≠ s.blk := fun he => hne (hs.inj b b1 s s1 x x1 hj h1 hg g1 hrw hd he.symm).symm
        rw [hsame _ hne']
        exact hs.blk _ _ _ h1 g1
      · cases x1 <;> first | (simp [Blk.alive] at hd; done) | trivial
  · intro b1 s1 x1 h1 g1 r1
    obtain ⟨y1, k1, k2, _⟩ := old _ _ g1
    exact .inr ⟨b1, s1, y1, h1, k1, k2 r1, rfl⟩
  · intro r hr hn
    exact hsame r fun he => hn b s x hj hg hrw he.symm

theorem over_get : ∀ (p cs : List Value) (o i : Nat), o + p.length ≤ cs.length → (over cs o p)[i]? = if o ≤ i ∧ i < o + p.length then p[i - o]? else cs[i]?
  | [], cs, o, i, _ => by
    simp only [over, List.length_nil, Nat.add_zero]
    rw [if_neg (by omega)]
  | v :: p, cs, o, i, h => by
    simp only [List.length_cons] at h
    simp only [over]
    rw [over_get p (cs.set o v) (o + 1) i (by simp; omega)]
    simp only [List.length_cons]
    by_cases h1 : o + 1 ≤ i ∧ i < o + 1 + p.length
    · rw [if_pos h1, if_pos (by omega)]
      rw [show i - o = (i - (o + 1)) + 1 by omega, List.getElem?_cons_succ]
    · rw [if_neg h1]
      by_cases h2 : i = o
      · subst h2
        rw [if_pos (by omega), List.getElem?_set_self (by omega)]
        simp
      · rw [if_neg (by omega), List.getElem?_set_ne (by omega)]

theorem row_get (c : Array Value) (o : Nat) (vs : List Value) (i : Nat) (h : o + vs.length ≤ c.size) :
    (c.toList.take o ++ vs ++ c.toList.drop (o + vs.length)).toArray[i]? = if o ≤ i ∧ i < o + vs.length then vs[i - o]? else c[i]? := by
  simp only [List.getElem?_toArray]
  by_cases h1 : i < o
  · rw [if_neg (by omega), List.append_assoc, List.getElem?_append_left (by simp; omega), List.getElem?_take_of_lt h1]
    simp
  · by_cases h2 : i < o + vs.length
    · rw [if_pos (by omega), List.append_assoc, List.getElem?_append_right (by simp; omega), List.getElem?_append_left (by simp; omega)]
      congr 1
      simp; omega
    · rw [if_neg (by omega), List.getElem?_append_right (by simp; omega), List.getElem?_drop]
      simp only [List.length_append, List.length_take, Array.length_toList, Array.getElem?_toList]
      congr 1
      omega

theorem VsRel.one : ∀ {a b : List Value}, VsRel j a b → a.all Value.oneCell' = true → ∀ v ∈ b, v.oneCell' = true
  | [], _, .nil, _, v, h => by simp at h
  | x :: a, _, .cons hv t, h, v, hm => by
    simp only [List.all_cons, Bool.and_eq_true] at h
    simp only [List.mem_cons] at hm
    rcases hm with rfl | hm
    · cases hv <;> first | rfl | exact h.1
    · exact VsRel.one t h.2 v hm

/-- Cells are written into a row. -/
theorem store_row (hs : Sim P j H w) {b e o : Nat} {s : Spot} {cs vs vs' : List Value} (hj : j b = some s) (hg : H.get b = some (.cells false e cs)) (hl : s.sh + o + vs.length ≤ s.sh + s.cap) (hv : VsRel j vs vs')
    (h1 : vs.all Value.oneCell' = true) :
    ∃ w' c' t, (storeCells ⟨s.blk, s.sh + o, none⟩ vs').run P w = .ok () w' ∧ (∀ r, r ≠ s.blk → w'.heap[r]? = w.heap[r]?) ∧ w'.heap.size = w.heap.size ∧ w'.tape = w.tape ∧ w'.os = w.os ∧ w'.output = w.output ∧
      w'.heap[s.blk]? = some (.cells c' t) ∧ s.sh + s.cap ≤ c'.size ∧
      (∀ i v, cs[i]? = some v → ¬ (o ≤ i ∧ i < o + vs.length) → ∃ v', c'[s.sh + i]? = some v' ∧ VRel j v v') ∧ (∀ i v, vs[i]? = some v → ∃ v', c'[s.sh + o + i]? = some v' ∧ VRel j v v') := by
  obtain ⟨c, t, fz, ho, hes, hc, hr⟩ := hs.blk _ _ _ hj hg
  obtain ⟨rfl, hr1, hr2⟩ := hr rfl
  have hlen := hv.length
  have hb : s.sh + o + 0 + vs'.length ≤ c.size := by omega
  have hst := run_storeCells_at P s.blk (s.sh + o) t vs' 0 c w ho hb (hv.one h1)
  simp only [Nat.add_zero] at hst
  refine ⟨_, _, t, hst, fun r hr => setRow_other w s.blk r _ hr, setRow_size _ _ _, rfl, rfl, rfl, setRow_heap w s.blk c _ t (0, 0) ho, ?_, ?_, ?_⟩
  · have : (c.toList.take (s.sh + o) ++ vs' ++ c.toList.drop (s.sh + o + vs'.length)).toArray.size = c.size := by simp; omega
    omega
  · intro i v hi hn
    obtain ⟨v', g1, g2⟩ := hc i v hi
    refine ⟨v', ?_, g2⟩
    rw [row_get c (s.sh + o) vs' _ (by omega), if_neg (by omega)]
    exact g1
  · intro i v hi
    obtain ⟨v', g1, g2⟩ := hv.get hi
    refine ⟨v', ?_, g2⟩
    have hii : i < vs'.length := (List.getElem?_eq_some_iff.1 g1).1
    rw [row_get c (s.sh + o) vs' _ (by omega), if_pos (by omega)]
    rw [← g1]; congr 1; omega

theorem storeA_sound (hs : Sim P j H w) {b o : Nat} {s : Spot} {vs vs' : List Value} {H' : Heap} (hj : j b = some s) (h : storeA H b o vs = some H') (hv : VsRel j vs vs') :
    ∃ w', (storeCells ⟨s.blk, s.sh + o, none⟩ vs').run P w = .ok () w' ∧ Sim P j H' w' ∧ Step j H w j H' w' := by
  unfold storeA at h
  split at h
  · rename_i e cs hg
    split at h
    · rename_i hc
      simp only [Option.some.injEq] at h
      subst h
      obtain ⟨c, t, fz, ho, hes, hcr, hr⟩ := hs.blk _ _ _ hj hg
      obtain ⟨rfl, hr1, hr2⟩ := hr rfl
      obtain ⟨w', c', t', k1, k2, k3, k4, k5, k6, k7, k8, k9, k10⟩ := store_row hs hj hg (o := o) (vs := vs) (vs' := vs') (by omega) hv hc.2
      have hx : BRel P j s (.cells false e (over cs o vs)) (w'.heap[s.blk]?) := by
        refine ⟨c', t', (0, 0), k7, hes, ?_, fun _ => ⟨rfl, k8, by rw [over_length]; exact hr2⟩⟩
        intro i v hi
        rw [over_get vs cs o i hc.1] at hi
        split at hi
        · rename_i hin
          obtain ⟨v', g1, g2⟩ := k10 _ _ hi
          refine ⟨v', ?_, g2⟩
          rw [← g1]; congr 1; omega
        · rename_i hin
          exact k9 i v hi hin
      have := hs.change hj hg rfl k2 k3 k4 k5 k6 hx
      exact ⟨w', k1, this.1, this.2⟩
    · simp at h
  · simp at h


/-- A block dies, and a new one lies in its place or elsewhere. -/
theorem Sim.kill (hs : Sim P j H w) {b : Nat} {s : Spot} {x : Blk} (hj : j b = some s) (hg : H.get b = some x) (hrw : x.rw = true) :
    Sim P j (H.set b .dead) w ∧ Step j H w j (H.set b .dead) w :=
  hs.change hj hg hrw (fun _ _ => rfl) rfl rfl rfl rfl trivial

/-- A new block of the heap lies in the place of a dead one. -/
theorem Sim.move (hs : Sim P j H w) {b : Nat} {s s' : Spot} {x x' : Blk} (hj : j b = some s) (hg : H.get b = some x) (hrw : x.rw = true) (hsame : ∀ r, r ≠ s.blk → w'.heap[r]? = w.heap[r]?)
    (hsz : w'.heap.size = w.heap.size) (ht : w'.tape = w.tape) (ho : w'.os = w.os) (hout : w'.output = w.output) (hb : s'.blk = s.blk) (hx' : BRel P (j.upd H.size s') s' x' (w'.heap[s.blk]?)) :
    Sim P (j.upd H.size s') ((H.set b .dead).push x') w' ∧ Step j H w (j.upd H.size s') ((H.set b .dead).push x') w' := by
  have hfr := hs.fresh
  have hbn := (hs.dom b s hj).1
  have get : ∀ b1 x1, ((H.set b .dead).push x').get b1 = some x1 → x1.alive = true → (b1 = H.size ∧ x1 = x') ∨ (b1 ≠ H.size ∧ b1 ≠ b ∧ H.get b1 = some x1) := by
    intro b1 x1 h ha
    rw [Heap.get_push, Heap.get_set] at h
    by_cases e : b1 = (H.set b .dead).size
    · rw [if_pos e] at h; exact .inl ⟨e, by simpa using h.symm⟩
    · rw [if_neg e] at h
      by_cases e' : b1 = b
      · rw [if_pos e'] at h; cases h; simp [Blk.alive] at ha
      · rw [if_neg e'] at h; exact .inr ⟨e, e', h⟩
  have rwal : ∀ y : Blk, y.rw = true → y.alive = true := by intro y h; cases y <;> first | rfl | simp [Blk.rw] at h
  refine ⟨⟨by
    intro i hi
    rw [Heap.size_push, Heap.size_set] at hi
    rw [Heap.get_push, Heap.get_set, if_neg (by rw [Heap.size_set]; omega), if_neg (by omega)]
    exact hs.wf i (by omega), ?_, ?_, ?_, ?_⟩, ⟨Inj.upd_le hfr, ?_, ?_, ?_, ?_, ⟨by omega, ht, ho, hout, ?_⟩⟩⟩
  · intro g hgl
    obtain ⟨s1, h1, h2, h3⟩ := hs.glob g hgl
    exact ⟨s1, Inj.upd_le hfr _ _ h1, h2, h3⟩
  · intro b1 s1 h
    simp only [Heap.push, Heap.set]
    rcases Inj.upd_inv h with ⟨rfl, rfl⟩ | ⟨_, h⟩
    · exact ⟨by omega, by rw [hsz, hb]; exact (hs.dom b s hj).2⟩
    · have := hs.dom b1 s1 h
      exact ⟨by omega, by rw [hsz]; exact this.2⟩
  · intro b1 b2 s1 s2 x1 x2 h1 h2 g1 g2 r1 r2 he
    have alb : x.alive = true := rwal x hrw
    rcases get _ _ g1 (rwal _ r1) with ⟨e1, f1⟩ | ⟨e1, f1, k1⟩ <;> rcases get _ _ g2 r2 with ⟨e2, f2⟩ | ⟨e2, f2, k2⟩
    · rw [e1, e2]
    · exfalso
      subst e1
      rw [Inj.upd_self] at h1; cases h1
      rcases Inj.upd_inv h2 with ⟨q, _⟩ | ⟨_, h2⟩
      · exact e2 q
      · exact f2 (hs.inj b b2 s s2 x x2 hj h2 hg k2 hrw r2 (by rw [← hb]; exact he)).symm
    · exfalso
      subst e2
      rw [Inj.upd_self] at h2; cases h2
      rcases Inj.upd_inv h1 with ⟨q, _⟩ | ⟨_, h1⟩
      · exact e1 q
      · exact f1 (hs.inj b1 b s1 s x1 x h1 hj k1 hg r1 alb (by rw [← hb]; exact he))
    · rcases Inj.upd_inv h1 with ⟨q, _⟩ | ⟨_, h1⟩
      · exact absurd q e1
      · rcases Inj.upd_inv h2 with ⟨q, _⟩ | ⟨_, h2⟩
        · exact absurd q e2
        · exact hs.inj b1 b2 s1 s2 x1 x2 h1 h2 k1 k2 r1 r2 he
  · intro b1 s1 x1 h1 g1
    by_cases hd : x1.alive = true
    · rcases get _ _ g1 hd with ⟨e1, rfl⟩ | ⟨e1, f1, k1⟩
      · subst e1
        rw [Inj.upd_self] at h1; cases h1
        rw [hb]; exact hx'
      · rcases Inj.upd_inv h1 with ⟨q, _⟩ | ⟨_, h1⟩
        · exact absurd q e1
        · have hne' : s1.blk ≠ s.blk := fun he => f1 (hs.inj b b1 s s1 x x1 hj h1 hg k1 hrw hd he.symm).symm
          rw [hsame _ hne']
          exact (hs.blk _ _ _ h1 k1).mono (Inj.upd_le hfr)
    · cases x1 <;> first | (simp [Blk.alive] at hd; done) | trivial
  · intro b1 s1 h
    rcases Inj.upd_inv h with ⟨rfl, _⟩ | ⟨_, h⟩
    · exact .inr (Nat.le_refl _)
    · exact .inl h
  · intro b1 s1 x1 h1 g1 r1
    rcases get _ _ g1 (rwal _ r1) with ⟨e1, rfl⟩ | ⟨e1, f1, k1⟩
    · subst e1
      rw [Inj.upd_self] at h1; cases h1
      exact .inr ⟨b, s, x, hj, hg, hrw, hb.symm⟩
    · rcases Inj.upd_inv h1 with ⟨q, _⟩ | ⟨_, h1⟩
      · exact absurd q e1
      · exact .inr ⟨b1, s1, x1, h1, k1, r1, rfl⟩
  · intro b1 s1 h1
    rcases Inj.upd_inv h1 with ⟨_, rfl⟩ | ⟨_, h1⟩
    · exact .inr ⟨b, s, hj, hb.symm⟩
    · exact .inr ⟨b1, s1, h1, rfl⟩
  · simp [Heap.push, Heap.set]
  · intro r hr hn
    exact hsame r fun he => hn b s x hj hg hrw he.symm

theorem Step.of_lays {j' : Inj} {x : Blk} (hs : Sim P j H w) (h : Lays j w H.size j' w') : Step j H w j' (H.push x) w' where
  sub := h.sub
  new b s hb := by
    rcases h.new b s hb with h1 | ⟨h1, _⟩
    · exact .inl h1
    · exact .inr (by omega)
  evo b s y hb hy hr := by
    rcases h.new b s hb with h1 | ⟨h1, h2⟩
    · refine .inr ⟨b, s, y, h1, ?_, hr, rfl⟩
      have := (hs.dom b s h1).1
      simp only [Heap.push] at hy
      rwa [if_neg (by omega)] at hy
    · exact .inl h2
  img b s hb := by
    rcases h.new b s hb with h1 | ⟨_, h2⟩
    · exact .inr ⟨b, s, h1, rfl⟩
    · exact .inl h2
  mono := by simp [Heap.push]
  keep := ⟨h.size, h.tape, h.os, h.output, fun r hr _ => h.same r hr⟩

theorem Sim.drawn (hs : Sim P j H w) (d : Nat) : Sim P j H { w with drawn := d } := ⟨hs.wf, hs.glob, hs.dom, hs.inj, hs.blk⟩

/-- A new row of the heap is laid. -/
theorem Sim.layNew (hs : Sim P j H w) {x : Blk} {s : Spot} {o : Obj} (hb : s.blk = w.heap.size) (d : Nat) (hx : BRel P (j.upd H.size s) s x (some o)) :
    Sim P (j.upd H.size s) (H.push x) { w with drawn := d, heap := w.heap.push o } ∧ Step j H w (j.upd H.size s) (H.push x) { w with drawn := d, heap := w.heap.push o } := by
  have h0 := (hs.drawn d).push x
  have hfr := hs.fresh
  have h1 := h0.lay (id := H.size) (x := x) (s := s) (o := o) hfr (by simp [Heap.push]) (by simp [Heap.push]) hb hx
  have h2 : Lays j { w with drawn := d } H.size (j.upd H.size s) { w with drawn := d, heap := w.heap.push o } := Lays.push hfr hb
  have h3 := Step.of_lays (x := x) (hs.drawn d) h2
  refine ⟨h1, ⟨h3.sub, h3.new, h3.evo, h3.img, h3.mono, ⟨h3.keep.size, h3.keep.tape, h3.keep.os, h3.keep.output, h3.keep.same⟩⟩⟩

end
end Ab
namespace Ab
open Go

section
variable {P : Program} {j : Inj} {ρ ρ' : Operand → Value} {w w' : World} {H : Heap}

theorem lenV_rel {x x' : Value} {n : Nat} (hx : VRel j x x') (h : lenV x = some n) : (Builtin.lenOf x').run P w = .ok n w := by
  unfold lenV at h
  split at h
  · rename_i a m c
    simp only [Option.some.injEq] at h; subst h
    cases a with
    | none => obtain ⟨rfl, _, rfl⟩ := hx.inv_snil; rfl
    | some a =>
      rcases hx.inv_slice with ⟨_, _, _, _, _, rfl⟩ | ⟨_, _, _, _, _, _, _, _, rfl⟩ | ⟨_, _, _, _, _, rfl, _, rfl⟩ | ⟨_, rfl, _, rfl⟩ <;> rfl
  · simp only [Option.some.injEq] at h; subst h
    rw [hx.inv_str]; rfl
  · simp at h

theorem run_loadCells_0 (a : Addr) : (loadCells a 0).run P w = .ok #[] w := rfl

/-- The first cells of a slice or a string. -/
theorem first_rel (hs : Sim P j H w) {x x' : Value} {esz n : Nat} {cs : List Value} (hx : VRel j x x') (h : sliceCells H esz n x = some cs) (hn : lenV x = some n ∨ ∃ m, lenV x = some m ∧ n ≤ m) :
    ∃ cs', (Builtin.firstCells esz n x').run P w = .ok cs' w ∧ VsRel j cs cs'.toList ∧ cs'.size = cs.length := by
  have hle : ∃ m, lenV x = some m ∧ n ≤ m := by
    rcases hn with h1 | h1
    · exact ⟨n, h1, Nat.le_refl _⟩
    · exact h1
  obtain ⟨m, hm, hnm⟩ := hle
  unfold sliceCells at h
  split at h
  · rename_i l c
    obtain ⟨rfl, _, rfl⟩ := hx.inv_snil
    split at h
    · simp only [Option.some.injEq] at h; subst h
      exact ⟨#[], rfl, .nil, rfl⟩
    · simp at h
  · rename_i b o l c
    have zero : n * esz = 0 → ∀ a l' c', (Builtin.firstCells esz n (.slice (some a) l' c')).run P w = .ok #[] w := by
      intro h0 a l' c'
      simp only [Builtin.firstCells, h0]; rfl
    split at h
    · rename_i h0
      simp only [Option.some.injEq] at h; subst h
      rcases hx.inv_slice with ⟨s, hj, _, _, _, rfl⟩ | ⟨s, c', hj, _, _, _, _, _, rfl⟩ | ⟨_, _, _, _, _, _, _, rfl⟩ | ⟨_, _, _, rfl⟩ <;> exact ⟨#[], zero h0 _ _ _, .nil, rfl⟩
    · rename_i h0
      split at h
      · rename_i ro e cells hg
        split at h
        · rename_i hb
          simp only [Option.some.injEq] at h; subst h
          simp only [lenV, Option.some.injEq] at hm
          have key : ∀ s, j b = some s → ∀ l' c', ∃ cs', (Builtin.firstCells esz n (.slice (some ⟨s.blk, s.sh + o, none⟩) l' c')).run P w = .ok cs' w ∧ VsRel j ((cells.drop o).take (n * esz)) cs'.toList ∧ cs'.size = ((cells.drop o).take (n * esz)).length := by
            intro s hj l' c'
            obtain ⟨l1, h1, h2, h3⟩ := hs.cells hj hg hb
            exact ⟨l1.toArray, h1, h2, by simp [h3]; omega⟩
          rcases hx.inv_slice with ⟨s, hj, _, _, _, rfl⟩ | ⟨s, c', hj, _, _, _, _, _, rfl⟩ | ⟨_, _, _, _, _, hl, _, rfl⟩ | ⟨_, hl, _, rfl⟩
          · exact key s hj _ _
          · exact key s hj _ _
          · exfalso; apply h0; have : n = 0 := by omega
            rw [this]; simp
          · exfalso; apply h0; have : n = 0 := by omega
            rw [this]; simp
        · simp at h
      · simp at h
  · rename_i s
    split at h
    · rename_i he
      simp only [Option.some.injEq] at h; subst h
      rw [hx.inv_str]
      refine ⟨(s.extract 0 n).data.map fun b => .int .u8 b.toNat, rfl, ?_, by simp⟩
      rw [Array.toList_map]
      generalize (s.extract 0 n).data.toList = l
      induction l with
      | nil => exact .nil
      | cons a l ih => exact .cons (.int _ _) ih
    · simp at h
  · simp at h

theorem nextcap_le {need cap : Nat} (h : cap < need) : Builtin.nextslicecap need cap ≤ 3 * need := by
  unfold Builtin.nextslicecap
  split
  · omega
  · split
    · omega
    · rename_i h1 h2
      have : ∀ r c, c < need + (need + 768) / 4 → Builtin.growBy need r c < need + (need + 768) / 4 := by
        intro r
        induction r with
        | zero => intro c h; exact h
        | succ r ih =>
          intro c h
          unfold Builtin.growBy
          split
          · exact h
          · exact ih _ (by omega)
      have := this 4 cap (by omega)
      omega


def notInt (P : Program) (t : TypeId) : Prop := (∃ e, P.underlying t = some (.slice e)) ∨ P.underlying t = some .string

theorem run_zeros {tx : TypeId} (h : notInt P tx) : (do pure ((← underlying tx) matches .int _) : Sem Bool).run P w = .ok false w := by
  rcases h with ⟨e, hu⟩ | hu <;> simp [run_ul hu]

theorem run_append_fit {ts tx ty e : TypeId} {i : TypeInfo} {a : Addr} {len cap n : Nat} {x' : Value} {new' : Array Value} (hu : P.underlying ts = some (.slice e)) (hi : P.info? e = some i) (htx : notInt P tx)
    (hl : (Builtin.lenOf x').run P w = .ok n w) (hf : (Builtin.firstCells i.size n x').run P w = .ok new' w) (hc : len + n ≤ cap) (hst : (storeCells (a.add (len * i.size)) new'.toList).run P w = .ok () w') :
    (Builtin.append_ #[ts, tx] ty #[.slice (some a) len cap, x']).run P w = .ok (.slice (some a) (len + n) cap) w' := by
  have hz := run_zeros (w := w) htx
  simp only [Sem.run_bind] at hz
  unfold Builtin.append_
  simp [run_ul hu, run_so hi, hl, hf, hc, hst]
  rcases htx with ⟨e', hu'⟩ | hu' <;> simp [run_ul hu', hl, hf, hc, hst]

theorem run_append_nil {ts tx ty e : TypeId} {i : TypeInfo} {x' : Value} {new' : Array Value} (hu : P.underlying ts = some (.slice e)) (hi : P.info? e = some i) (htx : notInt P tx)
    (hl : (Builtin.lenOf x').run P w = .ok 0 w) (hf : (Builtin.firstCells i.size 0 x').run P w = .ok new' w) :
    (Builtin.append_ #[ts, tx] ty #[.slice none 0 0, x']).run P w = .ok (.slice none 0 0) w := by
  unfold Builtin.append_
  rcases htx with ⟨e', hu'⟩ | hu' <;> simp [run_ul hu, run_so hi, run_ul hu', hl, hf]

theorem run_append_grow {ts tx ty e : TypeId} {i : TypeInfo} {z0 : Value} {base : Option Addr} {len cap n : Nat} {x' : Value} {old' new' : Array Value} (hu : P.underlying ts = some (.slice e)) (hi : P.info? e = some i) (hz0 : i.zero = some z0) (htx : notInt P tx)
    (hl : (Builtin.lenOf x').run P w = .ok n w) (hc : cap < len + n) (hb : (len + n) * i.bytes ≤ 70368744177664) (hb2 : len + n ≤ 70368744177664)
    (hold : (Builtin.firstCells i.size len (.slice base len cap)).run P { w with drawn := w.drawn + 1 } = .ok old' { w with drawn := w.drawn + 1 })
    (hnew : (Builtin.firstCells i.size n x').run P { w with drawn := w.drawn + 1 } = .ok new' { w with drawn := w.drawn + 1 }) :
    ∃ newCap, len + n ≤ newCap ∧ newCap < openCap ∧ (Builtin.append_ #[ts, tx] ty #[.slice base len cap, x']).run P w =
      .ok (.slice (some ⟨w.heap.size, 0, none⟩) (len + n) newCap) { w with drawn := w.drawn + 1, heap := w.heap.push (.cells (old' ++ new' ++ Builtin.zeroCells z0.cells (newCap - (len + n))) e) } := by
  have hnc : ¬ (2 ^ 48 < Builtin.nextslicecap (len + n) cap * i.bytes) := by
    have := nextcap_le hc
    have h3 : Builtin.nextslicecap (len + n) cap * i.bytes ≤ (3 * (len + n)) * i.bytes := Nat.mul_le_mul_right _ this
    rw [Nat.mul_assoc] at h3
    omega
  have hne : ¬ (len + n ≤ cap) := by omega
  have hq : ((len + n : Nat) : Int) ≤ IntKind.i64.max := by
    have : IntKind.i64.max = 9223372036854775807 := by decide
    rw [this]; omega
  refine ⟨(Question.appendCap (len + n) cap e).cut (w.tape w.drawn (.appendCap (len + n) cap e)), ?_, ?_, ?_⟩
  · simp only [Question.cut]; omega
  · simp only [Question.cut, openCap]
    have : w.tape w.drawn (.appendCap (len + n) cap e) % (2 ^ 63 - (len + n)) < 2 ^ 63 - (len + n) := Nat.mod_lt _ (by omega)
    omega
  · have hforce : (Question.appendCap (len + n) cap e).forced = false := rfl
    generalize hqq : (Question.appendCap (len + n) cap e).cut (w.tape w.drawn (.appendCap (len + n) cap e)) = nc
    unfold Builtin.append_
    have hmax : ¬ (IntKind.i64.max < ((len + n : Nat) : Int)) := by omega
    have hti := run_ti (P := P) hi w
    have hzv : ∀ W, (zeroValue e).run P W = .ok z0 W := fun W => by simp [zeroValue, run_ti hi, hz0]
    have htd := run_ti (P := P) hi w.drew
    have hold' : (Builtin.firstCells i.size len (.slice base len cap)).run P w.drew = .ok old' w.drew := hold
    have hnew' : (Builtin.firstCells i.size n x').run P w.drew = .ok new' w.drew := hnew
    have hbig : ¬ (9223372036854775807 < (len : Int) + (n : Int) ∧ i.bytes = 0) := by omega
    rcases htx with ⟨e', hu'⟩ | hu'
    · simp [run_ul hu, run_ul hu', run_so hi, hl, hne, hti, hnc, hforce, hqq, hzv, newRow]
      rw [if_neg hbig]
      simp only [htd, Result.andThen_ok, hold', hnew']
      rfl
    · simp [run_ul hu, run_ul hu', run_so hi, hl, hne, hti, hnc, hforce, hqq, hzv, newRow]
      rw [if_neg hbig]
      simp only [htd, Result.andThen_ok, hold', hnew']
      rfl

theorem sliceCells_length {x : Value} {esz n : Nat} {cs : List Value} (h : sliceCells H esz n x = some cs) (hn : lenV x = some n ∨ ∃ a l c, x = .slice a l c) : cs.length = n * esz := by
  unfold sliceCells at h
  split at h
  · split at h
    · rename_i h0; simp only [Option.some.injEq] at h; subst h; simp [h0]
    · simp at h
  · split at h
    · rename_i h0; simp only [Option.some.injEq] at h; subst h; simp [h0]
    · split at h
      · split at h
        · simp only [Option.some.injEq] at h; subst h; simp; omega
        · simp at h
      · simp at h
  · rename_i s
    split at h
    · rename_i he
      simp only [Option.some.injEq] at h; subst h
      rcases hn with hn | ⟨_, _, _, hn⟩
      · simp only [lenV, Option.some.injEq] at hn
        subst hn
        simp [he]
      · cases hn
    · simp at h
  · simp at h

theorem zeroCells_size (z : Array Value) (n : Nat) : (Builtin.zeroCells z n).size = n * z.size := by simp [Builtin.zeroCells]

/-- A slice that has grown into a new row. -/
theorem grown_lay (hs : Sim P j H w) {e : TypeId} {cs : List Value} {c rest : Array Value} {esz newCap need : Nat} (hc : VsRel j cs c.toList) (hl : cs.length = need * esz) (hn : need ≤ newCap) (hb : newCap < openCap) (hr : rest.size = (newCap - need) * esz) (d : Nat) :
    ∃ j', Sim P j' (H.push (.cells false esz cs)) { w with drawn := d, heap := w.heap.push (.cells (c ++ rest) e) } ∧ Step j H w j' (H.push (.cells false esz cs)) { w with drawn := d, heap := w.heap.push (.cells (c ++ rest) e) } ∧
      VRel j' (.slice (some ⟨H.size, 0, none⟩) need openCap) (.slice (some ⟨w.heap.size, 0, none⟩) need newCap) := by
  have hcl := hc.length
  have hsz : (c ++ rest).size = newCap * esz := by
    simp only [Array.size_append, hr]
    have : c.size = need * esz := by rw [← hl, hcl]; simp
    rw [this, ← Nat.add_mul]
    congr 1; omega
  have hx : BRel P (j.upd H.size ⟨w.heap.size, 0, newCap * esz, esz⟩) ⟨w.heap.size, 0, newCap * esz, esz⟩ (.cells false esz cs) (some (.cells (c ++ rest) e)) := by
    refine ⟨_, _, _, rfl, rfl, ?_, fun _ => ⟨rfl, by simp only [Nat.zero_add]; omega, ?_⟩⟩
    · intro i v hi
      obtain ⟨v', g1, g2⟩ := hc.get hi
      refine ⟨v', ?_, g2.mono (Inj.upd_le hs.fresh)⟩
      have : i < c.size := by have := (List.getElem?_eq_some_iff.1 g1).1; simpa using this
      rw [Nat.zero_add, Array.getElem?_append_left this]
      simpa using g1
    · rw [hl]; exact Nat.mul_le_mul_right _ hn
  have := hs.layNew (x := .cells false esz cs) (s := ⟨w.heap.size, 0, newCap * esz, esz⟩) rfl d hx
  refine ⟨_, this.1, this.2, ?_⟩
  exact VRel.opn (s := ⟨w.heap.size, 0, newCap * esz, esz⟩) (o := 0) Inj.upd_self ⟨hn, hb⟩ (by simp)

theorem append_sound (hs : Sim P j H w) {ts tx ty e : TypeId} {i : TypeInfo} {z : List Value} {s s' x x' v : Value} {H' : Heap} (hu : P.underlying ts = some (.slice e)) (hi : P.info? e = some i) (hz : zeroOf P e = some z) (htx : notInt P tx)
    (hs' : VRel j s s') (hx : VRel j x x') (h : appendA H i.size i.bytes s x = some (v, H')) :
    ∃ v' w' j', (Builtin.append_ #[ts, tx] ty #[s', x']).run P w = .ok v' w' ∧ VRel j' v v' ∧ Sim P j' H' w' ∧ Step j H w j' H' w' := by
  unfold appendA at h
  split at h
  · simp at h
  · rename_i n hn
    have hln := lenV_rel (P := P) (w := w) hx hn
    split at h
    · simp at h
    · rename_i new hnew
      obtain ⟨new', hf, hnr, hnsz⟩ := first_rel hs hx hnew (.inl hn)
      have hnl := sliceCells_length hnew (.inl hn)
      split at h
      · rename_i base len cap
        split at h
        · rename_i h0
          subst h0
          simp only [Option.some.injEq, Prod.mk.injEq] at h
          obtain ⟨rfl, rfl⟩ := h
          cases base with
          | none =>
            obtain ⟨rfl, rfl, rfl⟩ := hs'.inv_snil
            exact ⟨_, w, j, run_append_nil hu hi htx hln hf, .nilSlice, hs, Step.refl _ _ _⟩
          | some a =>
            have hnew0 : new'.toList = [] := by
              have : new'.toList.length = 0 := by simp [hnsz, hnl]
              simpa using this
            have hst : ∀ a', (storeCells a' new'.toList).run P w = .ok () w := fun a' => by rw [hnew0]; rfl
            rcases hs'.inv_slice with ⟨sp, hj, e1, e2, e3, rfl⟩ | ⟨sp, c', hj, e1, e2, e3, e4, e5, rfl⟩ | ⟨sp, a', hj, e1, e2, rfl, e4, rfl⟩ | ⟨a', rfl, rfl, rfl⟩
            · exact ⟨_, w, j, run_append_fit hu hi htx hln hf (by omega) (hst _), hs', hs, Step.refl _ _ _⟩
            · exact ⟨_, w, j, run_append_fit hu hi htx hln hf (by omega) (hst _), hs', hs, Step.refl _ _ _⟩
            · exact ⟨_, w, j, run_append_fit hu hi htx hln hf (by omega) (hst _), hs', hs, Step.refl _ _ _⟩
            · exact ⟨_, w, j, run_append_fit hu hi htx hln hf (by omega) (hst _), hs', hs, Step.refl _ _ _⟩
        · rename_i hn0
          split at h
          · simp at h
          · rename_i hcond
            simp only [Decidable.not_not] at hcond
            obtain ⟨hesz, hone, hb1, hb2⟩ := hcond
            obtain ⟨i', z0, hi', hz0, hze, hza, hzl⟩ := zeroOf_some hz
            rw [hi] at hi'; cases hi'
            have hz0s : z0.cells.size = i.size := by
              have : z0.cells.toList.length = i.size := by rw [Value.cells_eq, hze, hzl]
              simpa using this
            -- growing into a new row
            have grow : ∀ (base' : Option Addr) (cap' : Nat) (old : List Value) (old' : Array Value), cap' < len + n → (Builtin.firstCells i.size len (.slice base' len cap')).run P { w with drawn := w.drawn + 1 } = .ok old' { w with drawn := w.drawn + 1 } →
                VsRel j old old'.toList → old.length = len * i.size → ∀ H0, Sim P j H0 w → H0.size = H.size → Step j H w j H0 w →
                ∃ v' w' j', (Builtin.append_ #[ts, tx] ty #[.slice base' len cap', x']).run P w = .ok v' w' ∧ VRel j' (.slice (some ⟨H.size, 0, none⟩) (len + n) openCap) v' ∧ Sim P j' (H0.push (.cells false i.size (old ++ new))) w' ∧ Step j H w j' (H0.push (.cells false i.size (old ++ new))) w' := by
              intro base' cap' old old' hcap hold holdr holdl H0 hs0 hsz hstep
              obtain ⟨new2, hf2, hnr2, _⟩ := first_rel (hs.drawn (w.drawn + 1)) hx hnew (.inl hn)
              obtain ⟨nc, g1, g2, g3⟩ := run_append_grow (ty := ty) hu hi hz0 htx hln hcap hb1 hb2 hold hf2
              have hall : VsRel j (old ++ new) (old' ++ new2).toList := by rw [Array.toList_append]; exact holdr.append hnr2
              obtain ⟨j', k1, k2, k3⟩ := grown_lay hs0 (e := e) hall (need := len + n) (newCap := nc) (by rw [List.length_append, holdl, hnl, ← Nat.add_mul]) g1 g2 (rest := Builtin.zeroCells z0.cells (nc - (len + n))) (by rw [zeroCells_size, hz0s]) (w.drawn + 1)
              rw [hsz] at k3
              exact ⟨_, _, j', g3, k3, k1, hstep.trans k2⟩
            split at h
            · rename_i hcap
              subst hcap
              split at h
              · rename_i b o
                split at h
                · rename_i e' cs hg
                  split at h
                  · simp at h
                  · rename_i hcc
                    simp only [Decidable.not_not] at hcc
                    obtain ⟨rfl, hob⟩ := hcc
                    split at h
                    · rename_i hvis
                      simp only [Option.some.injEq, Prod.mk.injEq] at h
                      obtain ⟨rfl, rfl⟩ := h
                      rcases hs'.inv_slice with ⟨sp, hj, e1, e2, e3, rfl⟩ | ⟨sp, c', hj, e1, e2, e3, e4, e5, rfl⟩ | ⟨sp, a', hj, e1, e2, rfl, e4, rfl⟩ | ⟨a', rfl, e2, rfl⟩
                      · exact absurd e2 (Nat.lt_irrefl _)
                      · obtain ⟨c, t', fz, ho, hes, hcr, hr⟩ := hs.blk _ _ _ hj hg
                        obtain ⟨_, hr1, hr2⟩ := hr rfl
                        have hfit : len + n ≤ c' := by
                          refine Nat.le_of_mul_le_mul_right (c := i.size) ?_ (by omega)
                          rw [hes] at e5
                          simp only at e5
                          omega
                        have hsto : storeA H b (o + len * i.size) new = some (H.set b (.cells false i.size (over cs (o + len * i.size) new))) := by
                          rw [Nat.add_mul] at hvis
                          simp only [storeA, hg]
                          rw [if_pos ⟨by omega, hone⟩]
                        obtain ⟨w', k1, k2, k3⟩ := storeA_sound hs hj hsto hnr
                        refine ⟨_, w', j, run_append_fit hu hi htx hln hf hfit (by rw [Addr.add_none]; simp only at k1 ⊢; rw [Nat.add_assoc]; exact k1), ?_, k2, k3⟩
                        exact .opn hj ⟨hfit, e4⟩ e5
                      · exfalso
                        obtain ⟨c, t', fz, ho, hes, hcr, hr⟩ := hs.blk _ _ _ hj hg
                        obtain ⟨_, hr1, hr2⟩ := hr rfl
                        have : 0 < n * i.size := Nat.mul_pos (by omega) (by omega)
                        simp only [Nat.zero_add] at hvis
                        simp only at e2
                        omega
                      · exact absurd e2 (by decide)
                    · rename_i hvis
                      simp only [Option.some.injEq, Prod.mk.injEq] at h
                      obtain ⟨rfl, rfl⟩ := h
                      rcases hs'.inv_slice with ⟨sp, hj, e1, e2, e3, rfl⟩ | ⟨sp, c', hj, e1, e2, e3, e4, e5, rfl⟩ | ⟨sp, a', hj, e1, e2, rfl, e4, rfl⟩ | ⟨a', rfl, e2, rfl⟩
                      · exact absurd e2 (Nat.lt_irrefl _)
                      · obtain ⟨c, t', fz, ho, hes, hcr, hr⟩ := hs.blk _ _ _ hj hg
                        obtain ⟨_, hr1, hr2⟩ := hr rfl
                        by_cases hfit : len + n ≤ c'
                        · -- in place: the old block is dead
                          have hcap' : o + (len + n) * i.size ≤ sp.cap := by
                            rw [hes] at e5
                            have := Nat.mul_le_mul_right i.size hfit
                            simp only at e5
                            omega
                          rw [Nat.add_mul] at hcap'
                          obtain ⟨w', c2, t2, k1, k2, k3, k4, k5, k6, k7, k8, k9, k10⟩ := store_row hs hj hg (o := o + len * i.size) (vs := new) (vs' := new'.toList) (by omega) hnr hone
                          have hx' : BRel P (j.upd H.size ⟨sp.blk, sp.sh + o, sp.cap - o, i.size⟩) ⟨sp.blk, sp.sh + o, sp.cap - o, i.size⟩ (.cells false i.size ((cs.drop o).take (len * i.size) ++ new)) (w'.heap[sp.blk]?) := by
                            refine ⟨c2, t2, (0, 0), k7, rfl, ?_, fun _ => ⟨rfl, by simp only; omega, ?_⟩⟩
                            · intro k v hk
                              have htl : ((cs.drop o).take (len * i.size)).length = len * i.size := by simp; omega
                              by_cases hlt : k < len * i.size
                              · rw [List.getElem?_append_left (by omega), List.getElem?_take_of_lt hlt, List.getElem?_drop] at hk
                                obtain ⟨v', g1, g2⟩ := k9 _ _ hk (by omega)
                                refine ⟨v', ?_, g2.mono (Inj.upd_le hs.fresh)⟩
                                rw [← g1]; congr 1; simp only; omega
                              · rw [List.getElem?_append_right (by omega), htl] at hk
                                obtain ⟨v', g1, g2⟩ := k10 _ _ hk
                                refine ⟨v', ?_, g2.mono (Inj.upd_le hs.fresh)⟩
                                rw [← g1]; congr 1; simp only; omega
                            · simp only [List.length_append, List.length_take, List.length_drop, hnl]
                              omega
                          have hmv := hs.move (s' := ⟨sp.blk, sp.sh + o, sp.cap - o, i.size⟩) hj hg rfl k2 k3 k4 k5 k6 rfl hx'
                          refine ⟨_, w', _, run_append_fit hu hi htx hln hf hfit (by rw [Addr.add_none]; simp only at k1 ⊢; rw [Nat.add_assoc]; exact k1), ?_, hmv.1, hmv.2⟩
                          refine VRel.opn (s := ⟨sp.blk, sp.sh + o, sp.cap - o, i.size⟩) (o := 0) Inj.upd_self ⟨hfit, e4⟩ ?_
                          rw [hes] at e5
                          simp only at e5 ⊢
                          omega
                        · have hk := hs.kill hj hg rfl
                          have hsc : sliceCells H i.size len (.slice (some ⟨b, o, none⟩) len openCap) = some ((cs.drop o).take (len * i.size)) := by
                            simp only [sliceCells, hg]
                            split
                            · rename_i h0; simp [h0]
                            · simp [hob]
                          obtain ⟨old', g1, g2, g3⟩ := first_rel (hs.drawn (w.drawn + 1)) hs' hsc (.inl rfl)
                          exact grow _ c' _ old' (by omega) g1 g2 (by rw [List.length_take, List.length_drop]; omega) (H.set b .dead) hk.1 rfl hk.2
                      · have hk := hs.kill hj hg rfl
                        refine grow (some a') 0 ((cs.drop o).take (0 * i.size)) #[] (by omega) ?_ (by simp; exact .nil) (by simp) (H.set b .dead) hk.1 rfl hk.2
                        simp only [Builtin.firstCells, Nat.zero_mul]; rfl
                      · exact absurd e2 (by decide)
                · simp at h
              · simp at h
            · rename_i hcap
              split at h
              · rename_i hfit
                split at h
                · rename_i b o
                  split at h
                  · rename_i e' cs hg
                    split at h
                    · rename_i hvis
                      simp only [Option.some.injEq, Prod.mk.injEq] at h
                      obtain ⟨rfl, rfl⟩ := h
                      rcases hs'.inv_slice with ⟨sp, hj, e1, e2, e3, rfl⟩ | ⟨sp, c', hj, e1, e2, e3, e4, e5, rfl⟩ | ⟨sp, a', hj, e1, e2, rfl, e4, rfl⟩ | ⟨a', rfl, e2, rfl⟩
                      · have hsto : storeA H b (o + len * i.size) new = some (H.set b (.cells false e' (over cs (o + len * i.size) new))) := by
                          rw [Nat.add_mul] at hvis
                          simp only [storeA, hg]
                          rw [if_pos ⟨by omega, hone⟩]
                        obtain ⟨w', k1, k2, k3⟩ := storeA_sound hs hj hsto hnr
                        refine ⟨_, w', j, run_append_fit hu hi htx hln hf hfit (by rw [Addr.add_none]; simp only at k1 ⊢; rw [Nat.add_assoc]; exact k1), ?_, k2, k3⟩
                        exact .exact hj e2 hfit
                      · exact absurd e2 hcap
                      · exact absurd e4 hcap
                      · omega
                    · simp at h
                  · simp at h
                · simp at h
              · rename_i hfit
                split at h
                · rename_i old hold
                  simp only [Option.some.injEq, Prod.mk.injEq] at h
                  obtain ⟨rfl, rfl⟩ := h
                  obtain ⟨old', g1, g2, g3⟩ := first_rel (hs.drawn (w.drawn + 1)) hs' hold (.inl rfl)
                  have hol := sliceCells_length hold (.inr ⟨_, _, _, rfl⟩)
                  cases base with
                  | none =>
                    obtain ⟨rfl, rfl, rfl⟩ := hs'.inv_snil
                    exact grow none 0 old old' (by omega) g1 g2 hol H hs rfl (Step.refl _ _ _)
                  | some a =>
                    rcases hs'.inv_slice with ⟨sp, hj, e1, e2, e3, rfl⟩ | ⟨sp, c', hj, e1, e2, e3, e4, e5, rfl⟩ | ⟨sp, a', hj, e1, e2, rfl, e4, rfl⟩ | ⟨a', rfl, rfl, rfl⟩
                    · exact grow _ _ old old' (by omega) g1 g2 hol H hs rfl (Step.refl _ _ _)
                    · exact absurd e2 hcap
                    · exact absurd e4 hcap
                    · exact grow _ _ old old' (by omega) g1 g2 hol H hs rfl (Step.refl _ _ _)
                · simp at h
      · simp at h

theorem copy_sound (hs : Sim P j H w) {td ts ty e : TypeId} {i : TypeInfo} {d d' x x' v : Value} {H' : Heap} (hu : P.underlying td = some (.slice e)) (hi : P.info? e = some i)
    (hd : VRel j d d') (hx : VRel j x x') (h : copyA H i.size d x = some (v, H')) :
    ∃ v' w' j', (Builtin.copy_ #[td, ts] ty #[d', x']).run P w = .ok v' w' ∧ VRel j' v v' ∧ Sim P j' H' w' ∧ Step j H w j' H' w' := by
  unfold copyA at h
  split at h
  · rename_i m a dl c hm
    have hlm := lenV_rel (P := P) (w := w) hx hm
    simp only at h
    split at h
    · rename_i cs hcs
      simp only [Option.some.injEq, Prod.mk.injEq] at h
      obtain ⟨rfl, rfl⟩ := h
      obtain ⟨rfl, rfl, rfl⟩ := hd.inv_snil
      obtain ⟨cs', g1, g2, g3⟩ := first_rel hs hx hcs (.inr ⟨m, hm, Nat.min_le_left _ _⟩)
      have e0 : Nat.min m 0 = 0 := Nat.min_zero m
      rw [e0] at g1
      refine ⟨goInt 0, w, j, by simp only [Builtin.copy_]; simp [run_ul hu, run_so hi, hlm, g1], ?_, hs, Step.refl _ _ _⟩
      rw [e0]; exact .int _ _
    · rename_i cs b o hcs
      obtain ⟨cs', g1, g2, g3⟩ := first_rel hs hx hcs (.inr ⟨m, hm, Nat.min_le_left _ _⟩)
      split at h
      · rename_i h0
        simp only [Option.some.injEq, Prod.mk.injEq] at h
        obtain ⟨rfl, rfl⟩ := h
        have hcs0 : cs' = #[] := by
          have hcl : cs.length = 0 := by
            unfold sliceCells at hcs
            split at hcs
            · split at hcs
              · simp only [Option.some.injEq] at hcs; subst hcs; rfl
              · simp at hcs
            · rw [if_pos h0] at hcs
              simp only [Option.some.injEq] at hcs; subst hcs; rfl
            · rename_i s
              split at hcs
              · rename_i he
                simp only [Option.some.injEq] at hcs; subst hcs
                rw [he, Nat.mul_one] at h0
                rw [h0]; simp
              · simp at hcs
            · simp at hcs
          have : cs'.size = 0 := by omega
          simpa using this
        subst hcs0
        have hrun : ∀ a' c', (Builtin.copy_ #[td, ts] ty #[.slice (some a') dl c', x']).run P w = .ok (goInt (Nat.min m dl)) w := by
          intro a' c'
          simp only [Builtin.copy_]
          simp [run_ul hu, run_so hi, hlm, g1, storeCells]
        rcases hd.inv_slice with ⟨sp, hj, e1, e2, e3, rfl⟩ | ⟨sp, c', hj, e1, e2, e3, e4, e5, rfl⟩ | ⟨sp, a', hj, e1, e2, rfl, e4, rfl⟩ | ⟨a', rfl, rfl, rfl⟩
        · exact ⟨_, w, j, hrun _ _, .int _ _, hs, Step.refl _ _ _⟩
        · exact ⟨_, w, j, hrun _ _, .int _ _, hs, Step.refl _ _ _⟩
        · exact ⟨_, w, j, hrun _ _, .int _ _, hs, Step.refl _ _ _⟩
        · exact ⟨_, w, j, hrun _ _, .int _ _, hs, Step.refl _ _ _⟩
      · rename_i h0
        simp only [Option.map_eq_some_iff, Prod.mk.injEq] at h
        obtain ⟨H1, hst, rfl, rfl⟩ := h
        have key : ∀ sp : Spot, j b = some sp → ∀ c', ∃ w', (Builtin.copy_ #[td, ts] ty #[.slice (some ⟨sp.blk, sp.sh + o, none⟩) dl c', x']).run P w = .ok (goInt (Nat.min m dl)) w' ∧ Sim P j H1 w' ∧ Step j H w j H1 w' := by
          intro sp hj c'
          obtain ⟨w', k1, k2, k3⟩ := storeA_sound hs hj hst g2
          refine ⟨w', ?_, k2, k3⟩
          simp only [Builtin.copy_]
          simp [run_ul hu, run_so hi, hlm, g1, k1]
        rcases hd.inv_slice with ⟨sp, hj, e1, e2, e3, rfl⟩ | ⟨sp, c', hj, e1, e2, e3, e4, e5, rfl⟩ | ⟨sp, a', hj, e1, e2, rfl, e4, rfl⟩ | ⟨a', rfl, rfl, rfl⟩
        · obtain ⟨w', k1, k2, k3⟩ := key sp hj c
          exact ⟨_, w', j, k1, .int _ _, k2, k3⟩
        · obtain ⟨w', k1, k2, k3⟩ := key sp hj c'
          exact ⟨_, w', j, k1, .int _ _, k2, k3⟩
        · exact absurd (by rw [show Nat.min m 0 = 0 from Nat.min_zero m, Nat.zero_mul]) h0
        · exact absurd (by rw [show Nat.min m 0 = 0 from Nat.min_zero m, Nat.zero_mul]) h0
    · simp at h
  · simp at h

theorem zeroCells_rel {z : List Value} {n : Nat} {z0 : Value} (hz : z.all isScalarCell = true) (hze : cellsOf z0 = z) : VsRel j (repl n z) (Builtin.zeroCells z0.cells n).toList := by
  have hzc : z0.cells.toList = z := by rw [Value.cells_eq, hze]
  have hsz : z0.cells.size = z.length := by rw [← hzc]; simp
  exact repl_rel hz (by rw [hsz]) z0.cells hzc

theorem clear_sound (hs : Sim P j H w) {t ty e : TypeId} {i : TypeInfo} {z : List Value} {x x' : Value} {H' : Heap} (hu : P.underlying t = some (.slice e)) (hi : P.info? e = some i) (hz : zeroOf P e = some z)
    (hx : VRel j x x') (h : clearA H i.size z x = some H') :
    ∃ w' j', (Builtin.clear_ #[t] ty #[x']).run P w = .ok (.tuple #[]) w' ∧ Sim P j' H' w' ∧ Step j H w j' H' w' := by
  obtain ⟨i', z0, hi', hz0, hze, hza, hzl⟩ := zeroOf_some hz
  rw [hi] at hi'; cases hi'
  have hzv : ∀ W, (zeroValue e).run P W = .ok z0 W := fun W => by simp [zeroValue, run_ti hi, hz0]
  unfold clearA at h
  split at h
  · simp only [Option.some.injEq] at h; subst h
    obtain ⟨_, _, rfl⟩ := hx.inv_snil
    exact ⟨w, j, by simp [Builtin.clear_, run_ul hu], hs, Step.refl _ _ _⟩
  · rename_i b o n c
    have run : ∀ a' n' c' w', n' ≠ 0 → (storeCells a' (Builtin.zeroCells z0.cells n').toList).run P w = .ok () w' → (Builtin.clear_ #[t] ty #[.slice (some a') n' c']).run P w = .ok (.tuple #[]) w' := by
      intro a' n' c' w' hn hst
      obtain ⟨k, rfl⟩ := Nat.exists_eq_succ_of_ne_zero hn
      simp [Builtin.clear_, run_ul hu, hzv, hst]
    have run0 : ∀ a' c', (Builtin.clear_ #[t] ty #[.slice (some a') 0 c']).run P w = .ok (.tuple #[]) w := by
      intro a' c'
      simp [Builtin.clear_, run_ul hu]
    split at h
    · rename_i h0
      simp only [Option.some.injEq] at h; subst h
      have hemp : Builtin.zeroCells z0.cells n = #[] := by
        have : (Builtin.zeroCells z0.cells n).size = 0 := by
          rw [zeroCells_size]
          have : z0.cells.size = i.size := by
            have : z0.cells.toList.length = i.size := by rw [Value.cells_eq, hze, hzl]
            simpa using this
          rw [this]; exact h0
        simpa using this
      have : ∀ a' c', (Builtin.clear_ #[t] ty #[.slice (some a') n c']).run P w = .ok (.tuple #[]) w := by
        intro a' c'
        by_cases hn : n = 0
        · subst hn; exact run0 a' c'
        · exact run a' n c' w hn (by rw [hemp]; rfl)
      rcases hx.inv_slice with ⟨sp, hj, e1, e2, e3, rfl⟩ | ⟨sp, c', hj, e1, e2, e3, e4, e5, rfl⟩ | ⟨sp, a', hj, e1, e2, rfl, e4, rfl⟩ | ⟨a', rfl, rfl, rfl⟩
      · exact ⟨w, j, this _ _, hs, Step.refl _ _ _⟩
      · exact ⟨w, j, this _ _, hs, Step.refl _ _ _⟩
      · exact ⟨w, j, run0 _ _, hs, Step.refl _ _ _⟩
      · exact ⟨w, j, run0 _ _, hs, Step.refl _ _ _⟩
    · rename_i h0
      have hn : n ≠ 0 := fun h => h0 (by rw [h, Nat.zero_mul])
      have key : ∀ sp : Spot, j b = some sp → ∀ c', ∃ w' j', (Builtin.clear_ #[t] ty #[.slice (some ⟨sp.blk, sp.sh + o, none⟩) n c']).run P w = .ok (.tuple #[]) w' ∧ Sim P j' H' w' ∧ Step j H w j' H' w' := by
        intro sp hj c'
        obtain ⟨w', k1, k2, k3⟩ := storeA_sound hs hj h (zeroCells_rel hza hze)
        exact ⟨w', j, run _ _ _ _ hn k1, k2, k3⟩
      rcases hx.inv_slice with ⟨sp, hj, e1, e2, e3, rfl⟩ | ⟨sp, c', hj, e1, e2, e3, e4, e5, rfl⟩ | ⟨sp, a', hj, e1, e2, hn', e4, rfl⟩ | ⟨a', hn', rfl, rfl⟩
      · exact key sp hj _
      · exact key sp hj _
      · exact absurd hn' hn
      · exact absurd hn' hn
  · simp at h

end
end Ab
namespace Ab
open Go

section
variable {P : Program} {j : Inj} {ρ ρ' : Operand → Value} {w w' : World} {H : Heap}

theorem findEnt_some {kk : KK} {k : Value} : ∀ {es : List MapEntry} {n i : Nat} {v : Value}, findEnt kk k es n = some (some (i, v)) → n ≤ i ∧ ∃ e, es[i - n]? = some e ∧ keyEq kk k e.key = some true
  | [], _, _, _, h => by simp [findEnt] at h
  | e :: es, n, i, v, h => by
    simp only [findEnt] at h
    split at h
    · rename_i hk
      simp only [Option.some.injEq, Prod.mk.injEq] at h
      obtain ⟨rfl, rfl⟩ := h
      exact ⟨Nat.le_refl _, e, by simp, hk⟩
    · obtain ⟨h1, e', h2, h3⟩ := findEnt_some h
      refine ⟨by omega, e', ?_, h3⟩
      rw [show i - n = (i - (n + 1)) + 1 by omega, List.getElem?_cons_succ]
      exact h2
    · simp at h

theorem sameBits_cells : ∀ {ks : List Bool} {a b : List Value} {d : Nat}, cellsEq ks a b = some true → b.length = a.length ∧ (b.zip a).all (fun (x, y) => Instr.sameBits d x y) = true
  | [], [], [], _, _ => ⟨rfl, rfl⟩
  | k :: ks, x :: a, y :: b, d, h => by
    simp only [cellsEq] at h
    split at h
    · rename_i p q hp hq
      simp only [Option.some.injEq, Bool.and_eq_true] at h
      obtain ⟨rfl, rfl⟩ := h
      obtain ⟨h1, h2⟩ := sameBits_cells (d := d) hq
      refine ⟨by simp [h1], ?_⟩
      simp only [List.zip_cons_cons, List.all_cons, h2, Bool.and_true]
      cases k <;> cases x <;> cases y <;> simp [cellEq] at hp
      · cases d <;> simp [Instr.sameBits, hp]
      · obtain ⟨rfl, rfl⟩ := hp
        cases d <;> simp [Instr.sameBits]
    · simp at h
  | [], [], _ :: _, _, h => by simp [cellsEq] at h
  | [], _ :: _, _, _, h => by simp [cellsEq] at h
  | _ :: _, [], _, _, h => by simp [cellsEq] at h
  | _ :: _, _ :: _, [], _, h => by simp [cellsEq] at h

theorem sameBits_key {kk : KK} {a b : Value} (h : keyEq kk a b = some true) : Instr.sameBits 10000 b a = true := by
  unfold keyEq at h
  split at h
  · split at h
    · rename_i hk
      subst hk
      simp at h; subst h
      simp [Instr.sameBits]
    · simp at h
  · simp only [Option.some.injEq] at h
    rw [beq_toListBytes] at h
    have := beq_iff_eq.1 h
    simp [Instr.sameBits, beq_toListBytes, this]
  · simp at h; subst h; simp [Instr.sameBits]
  · rename_i x y
    obtain ⟨h1, h2⟩ := sameBits_cells (d := 9999) h
    have : Instr.sameBits (9999 + 1) (.agg y) (.agg x) = true := by
      rw [Instr.sameBits]
      simp only [Array.length_toList] at h1
      simp [h1]
      simpa using h2
    exact this
  · simp at h

theorem EsRel.append : ∀ {a b c d : List MapEntry}, EsRel j a b → EsRel j c d → EsRel j (a ++ c) (b ++ d)
  | _, _, _, _, .nil, h => h
  | _, _, _, _, .cons hv t, h => .cons hv (EsRel.append t h)

theorem EsRel.get : ∀ {a b : List MapEntry} {i : Nat} {e : MapEntry}, EsRel j a b → a[i]? = some e → ∃ e', b[i]? = some e' ∧ ERel j e e'
  | _, _, i, e, .nil, h => by simp at h
  | _, _, 0, e, .cons hv _, h => by simp at h; subst h; exact ⟨_, rfl, hv⟩
  | _, _, i + 1, e, .cons _ t, h => by simp at h; simpa using EsRel.get t h

theorem EsRel.modify {f g : MapEntry → MapEntry} (hf : ∀ e e', ERel j e e' → ERel j (f e) (g e')) : ∀ {a b : List MapEntry} (i : Nat), EsRel j a b → EsRel j (a.modify i f) (b.modify i g)
  | _, _, 0, .nil => .nil
  | _, _, _ + 1, .nil => .nil
  | _, _, 0, .cons h t => .cons (hf _ _ h) t
  | _, _, i + 1, .cons h t => by
    rw [List.modify_succ_cons, List.modify_succ_cons]
    exact .cons h (EsRel.modify hf i t)

theorem mapUpdate_sound (hs : Sim P j H w) {t kt e : TypeId} {kk : KK} {m m' k k' x x' : Value} {H' : Heap} (hu : P.underlying t = some (.map kt e)) (hkk : keyOk P kt = some kk)
    (hm : VRel j m m') (hk : VRel j k k') (hx : VRel j x x') (h : mapUpdateA H kk m k x = some H') :
    ∃ w', (Instr.mapUpdate t m' k' x').run P w = .ok () w' ∧ Sim P j H' w' ∧ Step j H w j H' w' := by
  unfold mapUpdateA at h
  split at h
  · simp at h
  · rename_i hkey
    have hkey' := isKey_rel hk (by simpa using hkey)
    have hck : (Instr.checkKey false 10000 kt k').run P w = .ok () w := checkKey_run (d := 9998) hkk hkey'
    split at h
    · rename_i r
      obtain ⟨s, hj, rfl⟩ : ∃ s, j r = some s ∧ m' = .map (some s.blk) := by
        cases hm with
        | map hj => exact ⟨_, hj, rfl⟩
      split at h
      · rename_i es clock hg
        obtain ⟨h0, es', ho, hes⟩ := hs.blk _ _ _ hj hg
        have hlt := (hs.dom _ _ hj).2
        have fin : ∀ (x1 : Blk) (o : Obj), x1.rw = true → BRel P j s x1 (some o) → Sim P j (H.set r x1) { w with heap := w.heap.setIfInBounds s.blk o } ∧ Step j H w j (H.set r x1) { w with heap := w.heap.setIfInBounds s.blk o } := by
          intro x1 o _ hb
          refine hs.change hj hg rfl ?_ ?_ rfl rfl rfl ?_
          · intro r' hr'
            simp [Ne.symm hr']
          · simp
          · have : ({ w with heap := w.heap.setIfInBounds s.blk o } : World).heap[s.blk]? = some o := by simp [hlt]
            rw [this]; exact hb
        have hgo := run_getObj_map (P := P) (w := w) ho
        have hset : ∀ o, (setObj s.blk o).run P w = .ok () { w with heap := w.heap.setIfInBounds s.blk o } := by
          intro o
          simp [setObj, Sem.run, ho]
        split at h
        · rename_i i v0 hfe
          simp only [Option.some.injEq] at h; subst h
          obtain ⟨r', hr', hm'⟩ := findEnt_rel hk hes hfe
          cases r' with
          | none => exact hm'.elim
          | some p =>
            obtain ⟨i', v'⟩ := p
            obtain ⟨rfl, hv'⟩ := hm'
            obtain ⟨_, e1, he1, hke⟩ := findEnt_some hr'
            have hfk := findKey_run (w := w) hkk hr'
            have hb := sameBits_key hke
            rw [Nat.sub_zero] at he1
            have he1' : es'[i]? = some e1 := by simpa using he1
            have hrun : (Instr.mapUpdate t (.map (some s.blk)) k' x').run P w = .ok () { w with heap := w.heap.setIfInBounds s.blk (.map (es'.modify i fun e => { e with key := k', val := x' }) clock) } := by
              unfold Instr.mapUpdate
              simp [run_ul hu, hgo, hck, hfk, he1', Instr.keyThatStays, hb, hset]
            have := fin (.map (es.modify i fun e => { e with key := k, val := x }) clock) (.map (es'.modify i fun e => { e with key := k', val := x' }) clock) rfl ⟨h0, _, rfl, by
              rw [Array.toList_modify]
              refine EsRel.modify (f := fun e => { e with key := k, val := x }) (g := fun e => { e with key := k', val := x' }) ?_ i hes
              exact fun e e' he => ⟨hk, hx, he.born⟩⟩
            exact ⟨_, hrun, this.1, this.2⟩
        · rename_i hfe
          simp only [Option.some.injEq] at h; subst h
          obtain ⟨r', hr', hm'⟩ := findEnt_rel hk hes hfe
          cases r' with
          | some p => exact hm'.elim
          | none =>
            have hfk := findKey_run (w := w) hkk hr'
            have hrun : (Instr.mapUpdate t (.map (some s.blk)) k' x').run P w = .ok () { w with heap := w.heap.setIfInBounds s.blk (.map (es'.push { key := k', val := x', born := clock }) (clock + 1)) } := by
              unfold Instr.mapUpdate
              simp [run_ul hu, hgo, hck, hfk, hset]
            have := fin (.map (es ++ [{ key := k, val := x, born := clock }]) (clock + 1)) (.map (es'.push { key := k', val := x', born := clock }) (clock + 1)) rfl ⟨h0, _, rfl, by
              rw [Array.toList_push]
              exact hes.append (.cons ⟨hk, hx, rfl⟩ .nil)⟩
            exact ⟨_, hrun, this.1, this.2⟩
        · simp at h
      · simp at h
    · simp at h

/-- THE THEOREM OF WRITES. -/
theorem write_sound (hs : Sim P j H w) {o : Oper} {a : AOp} {v : Value} {H' : Heap} (hc : cOp P o.op o.type = some a) (hcl : a.cls = .write) (hv : writeOp ρ H a = some (v, H')) (hr : OpRel j ρ ρ' a) :
    ∃ v' w' j', ((execOp ρ' o).run P w = .ok (.value v') w' ∨ (v' = undef ∧ (execOp ρ' o).run P w = .ok .skip w')) ∧ VRel j' v v' ∧ Sim P j' H' w' ∧ Step j H w j' H' w' := by
  obtain ⟨dst, op, type, pos, after, guard⟩ := o
  simp only at hc
  have skip : ∀ {s : Sem Unit} {w' : World}, execOp ρ' ⟨dst, op, type, pos, after, guard⟩ = (do s; pure .skip) → s.run P w = .ok () w' → (execOp ρ' ⟨dst, op, type, pos, after, guard⟩).run P w = .ok .skip w' := by
    intro s w' h1 h2
    rw [h1]; simp [h2]
  cases op with
  | store t x y =>
    simp only [cOp, Option.map_eq_some_iff] at hc
    obtain ⟨i, hi, rfl⟩ := hc
    have hx := hr x (by simp [AOp.operands])
    have hy := hr y (by simp [AOp.operands])
    simp only [writeOp] at hv
    split at hv
    · rename_i b o ex
      rw [ex] at hx
      obtain ⟨s, hj, ex'⟩ := hx.inv_ptr
      split at hv
      · rename_i hsz
        simp only [Option.map_eq_some_iff, Prod.mk.injEq] at hv
        obtain ⟨H1, hst, rfl, rfl⟩ := hv
        have hcells := hy.cells
        obtain ⟨w', k1, k2, k3⟩ := storeA_sound hs hj hst hcells
        refine ⟨undef, w', j, .inr ⟨rfl, skip (s := Instr.storeAt t (ρ' x) (ρ' y)) rfl ?_⟩, VRel.undef j, k2, k3⟩
        rw [ex']
        have hlen : (ρ' y).cells.size = i.size := by
          have e1 : (ρ' y).cells.toList.length = i.size := by rw [Value.cells_eq, ← hcells.length, hsz]
          simpa using e1
        simp [Instr.storeAt, Instr.sureAddr, storeVar, run_so hi, hlen, Value.cells_eq, k1]
      · simp at hv
    · simp at hv
  | mapUpdate t m k x =>
    simp only [cOp] at hc
    split at hc
    · rename_i kt e hu
      simp only [Option.map_eq_some_iff] at hc
      obtain ⟨kk, hkk, rfl⟩ := hc
      simp only [writeOp, Option.map_eq_some_iff, Prod.mk.injEq] at hv
      obtain ⟨H1, hst, rfl, rfl⟩ := hv
      obtain ⟨w', k1, k2, k3⟩ := mapUpdate_sound hs hu hkk (hr m (by simp [AOp.operands])) (hr k (by simp [AOp.operands])) (hr x (by simp [AOp.operands])) hst
      exact ⟨undef, w', j, .inr ⟨rfl, skip (s := Instr.mapUpdate t (ρ' m) (ρ' k) (ρ' x)) rfl k1⟩, VRel.undef j, k2, k3⟩
    · simp at hc
  | insert t m k x =>
    simp only [cOp] at hc
    split at hc
    · rename_i kt e hu
      simp only [Option.map_eq_some_iff] at hc
      obtain ⟨kk, hkk, rfl⟩ := hc
      simp only [writeOp, Option.map_eq_some_iff, Prod.mk.injEq] at hv
      obtain ⟨H1, hst, rfl, rfl⟩ := hv
      obtain ⟨w', k1, k2, k3⟩ := mapUpdate_sound hs hu hkk (hr m (by simp [AOp.operands])) (hr k (by simp [AOp.operands])) (hr x (by simp [AOp.operands])) hst
      exact ⟨undef, w', j, .inr ⟨rfl, skip (s := Instr.mapUpdate t (ρ' m) (ρ' k) (ρ' x)) rfl k1⟩, VRel.undef j, k2, k3⟩
    · simp at hc
  | call c =>
    obtain ⟨callee, args, argTypes⟩ := c
    simp only [cOp] at hc
    split at hc
    · simp only [Option.some.injEq] at hc; subst hc; simp [AOp.cls] at hcl
    · simp at hc
    · rename_i b
      split at hc
      · split at hc
        · simp only [Option.some.injEq] at hc; subst hc; simp [AOp.cls] at hcl
        · simp only [Option.some.injEq] at hc; subst hc; simp [AOp.cls] at hcl
        · simp only [Option.some.injEq] at hc; subst hc; simp [AOp.cls] at hcl
        · split at hc <;> simp at hc
          subst hc; simp [AOp.cls] at hcl
        · simp only [Option.some.injEq] at hc; subst hc; simp [AOp.cls] at hcl
        · simp at hc
      · rename_i s x ts tx hargs htys
        have ea : args = #[s, x] := Array.ext' hargs
        have et : argTypes = #[ts, tx] := Array.ext' htys
        subst ea et
        split at hc
        · rename_i e hu
          have key : ∀ i z, P.info? e = some i → zeroOf P e = some z → notInt P tx → a = .append i.size i.bytes z s x e →
              ∃ v' w' j', ((execOp ρ' ⟨dst, .call ⟨.builtin .append, #[s, x], #[ts, tx]⟩, type, pos, after, guard⟩).run P w = .ok (.value v') w' ∨ (v' = undef ∧ (execOp ρ' ⟨dst, .call ⟨.builtin .append, #[s, x], #[ts, tx]⟩, type, pos, after, guard⟩).run P w = .ok .skip w')) ∧ VRel j' v v' ∧ Sim P j' H' w' ∧ Step j H w j' H' w' := by
            intro i z hi hz htx ha
            subst ha
            simp only [writeOp] at hv
            obtain ⟨v', w', j', k1, k2, k3, k4⟩ := append_sound (ty := type) hs hu hi hz htx (hr s (by simp [AOp.operands])) (hr x (by simp [AOp.operands])) hv
            refine ⟨v', w', j', .inl ?_, k2, k3, k4⟩
            simp [execOp, resolve, invoke, builtin, k1]
          split at hc
          · rename_i i z _ hi hz htx
            simp only [Option.some.injEq] at hc
            exact key i z hi hz (.inl ⟨_, htx⟩) hc.symm
          · rename_i i z hi hz htx
            simp only [Option.some.injEq] at hc
            exact key i z hi hz (.inr htx) hc.symm
          · simp at hc
        · simp at hc
      · rename_i d x td ts hargs htys
        have ea : args = #[d, x] := Array.ext' hargs
        have et : argTypes = #[td, ts] := Array.ext' htys
        subst ea et
        split at hc
        · rename_i e hu
          simp only [Option.map_eq_some_iff] at hc
          obtain ⟨i, hi, rfl⟩ := hc
          simp only [writeOp] at hv
          obtain ⟨v', w', j', k1, k2, k3, k4⟩ := copy_sound (ts := ts) (ty := type) hs hu hi (hr d (by simp [AOp.operands])) (hr x (by simp [AOp.operands])) hv
          refine ⟨v', w', j', .inl ?_, k2, k3, k4⟩
          simp [execOp, resolve, invoke, builtin, k1]
        · simp at hc
      · rename_i x t hargs htys
        have ea : args = #[x] := Array.ext' hargs
        have et : argTypes = #[t] := Array.ext' htys
        subst ea et
        split at hc
        · rename_i e hu
          split at hc
          · rename_i i z hi hz
            simp only [Option.some.injEq] at hc; subst hc
            simp only [writeOp, Option.map_eq_some_iff, Prod.mk.injEq] at hv
            obtain ⟨H1, hst, rfl, rfl⟩ := hv
            obtain ⟨w', j', k1, k2, k3⟩ := clear_sound (ty := type) hs hu hi hz (hr x (by simp [AOp.operands])) hst
            refine ⟨.tuple #[], w', j', .inl ?_, .tuple .nil, k2, k3⟩
            simp [execOp, resolve, invoke, builtin, k1]
          · simp at hc
        · simp at hc
      · simp only [Option.some.injEq] at hc; subst hc; simp [AOp.cls] at hcl
      · simp only [Option.some.injEq] at hc; subst hc; simp [AOp.cls] at hcl
      · simp at hc
  | move x => simp only [cOp, Option.some.injEq] at hc; subst hc; simp [AOp.cls] at hcl
  | assign x => simp only [cOp, Option.some.injEq] at hc; subst hc; simp [AOp.cls] at hcl
  | pick c x y => simp only [cOp, Option.some.injEq] at hc; subst hc; simp [AOp.cls] at hcl
  | unOp o t x => simp only [cOp, Option.some.injEq] at hc; subst hc; simp [AOp.cls] at hcl
  | nilCheck x => simp only [cOp, Option.some.injEq] at hc; subst hc; simp [AOp.cls] at hcl
  | extract x i => simp only [cOp, Option.some.injEq] at hc; subst hc; simp [AOp.cls] at hcl
  | panic x => simp only [cOp, Option.some.injEq] at hc; subst hc; simp [AOp.cls] at hcl
  | next x s => cases s <;> simp only [cOp, Option.some.injEq, reduceCtorEq] at hc; subst hc; simp [AOp.cls] at hcl
  | makeFunc fn f c => cases fn <;> simp only [cOp, Option.some.injEq, reduceCtorEq] at hc; subst hc; simp [AOp.cls] at hcl
  | build t ps =>
    simp only [cOp] at hc
    split at hc
    · split at hc <;> simp at hc
      subst hc; simp [AOp.cls] at hcl
    · simp only [Option.map_eq_some_iff] at hc; obtain ⟨_, _, rfl⟩ := hc; simp [AOp.cls] at hcl
    · simp at hc
  | binOp op t x y yt =>
    simp only [cOp] at hc
    (repeat' split at hc) <;> simp at hc <;> (subst hc; simp [AOp.cls] at hcl)
  | convert s d x => simp only [cOp] at hc; split at hc <;> simp at hc; subst hc; simp [AOp.cls] at hcl
  | fieldAddr s x f =>
    simp only [cOp] at hc
    split at hc
    · simp only [Option.bind_eq_some_iff] at hc
      obtain ⟨fd, _, i, _, hc⟩ := hc
      split at hc <;> simp at hc
      subst hc; simp [AOp.cls] at hcl
    · simp at hc
  | field s x f =>
    simp only [cOp] at hc
    split at hc
    · simp only [Option.bind_eq_some_iff] at hc
      obtain ⟨fd, _, hc⟩ := hc
      split at hc <;> simp at hc
      subst hc; simp [AOp.cls] at hcl
    · simp at hc
  | indexAddr t x i =>
    simp only [cOp] at hc
    split at hc
    · simp only [Option.map_eq_some_iff] at hc; obtain ⟨_, _, rfl⟩ := hc; simp [AOp.cls] at hcl
    · simp only [Option.map_eq_some_iff] at hc; obtain ⟨_, _, rfl⟩ := hc; simp [AOp.cls] at hcl
    · simp at hc
  | index t x i =>
    simp only [cOp] at hc
    split at hc
    · simp only [Option.some.injEq] at hc; subst hc; simp [AOp.cls] at hcl
    · split at hc <;> simp at hc
      subst hc; simp [AOp.cls] at hcl
    · simp at hc
  | makeInterface t x => simp only [cOp] at hc; split at hc <;> simp at hc; subst hc; simp [AOp.cls] at hcl
  | load t x => simp only [cOp, Option.map_eq_some_iff] at hc; obtain ⟨_, _, rfl⟩ := hc; simp [AOp.cls] at hcl
  | entry x => simp only [cOp, Option.some.injEq] at hc; subst hc; simp [AOp.cls] at hcl
  | lookup t m k ok =>
    simp only [cOp] at hc
    split at hc
    · split at hc <;> simp at hc
      subst hc; simp [AOp.cls] at hcl
    · simp at hc
  | slice t x lo hi mx =>
    simp only [cOp] at hc
    split at hc
    · simp only [Option.map_eq_some_iff] at hc; obtain ⟨_, _, rfl⟩ := hc; simp [AOp.cls] at hcl
    · split at hc <;> simp at hc
      subst hc; simp [AOp.cls] at hcl
    · split at hc
      · simp at hc
      · simp only [Option.map_eq_some_iff] at hc; obtain ⟨_, _, rfl⟩ := hc; simp [AOp.cls] at hcl
    · split at hc
      · split at hc
        · simp at hc
        · simp only [Option.map_eq_some_iff] at hc; obtain ⟨_, _, rfl⟩ := hc; simp [AOp.cls] at hcl
      · simp at hc
    · simp at hc
  | alloc t => simp only [cOp, Option.map_eq_some_iff] at hc; obtain ⟨_, _, rfl⟩ := hc; simp [AOp.cls] at hcl
  | box t x => simp only [cOp, Option.some.injEq] at hc; subst hc; simp [AOp.cls] at hcl
  | makeMap t r => cases r <;> simp only [cOp, reduceCtorEq] at hc; split at hc <;> simp at hc; subst hc; simp [AOp.cls] at hcl
  | range t x => simp only [cOp] at hc; split at hc <;> simp at hc; subst hc; simp [AOp.cls] at hcl
  | buildSlice t n ps =>
    simp only [cOp] at hc
    split at hc
    · split at hc
      · split at hc <;> simp at hc
        subst hc; simp [AOp.cls] at hcl
      · simp at hc
    · simp at hc
  | makeSlice t l c =>
    simp only [cOp] at hc
    split at hc
    · split at hc
      · split at hc <;> simp at hc
        subst hc; simp [AOp.cls] at hcl
      · simp at hc
    · simp at hc
  | _ => simp [cOp] at hc

end
end Ab
