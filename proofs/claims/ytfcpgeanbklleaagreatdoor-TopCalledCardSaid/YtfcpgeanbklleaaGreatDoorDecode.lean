/- From a reading of a call's arguments to an abstract heap of blocks that can only be read. -/
import Derived.Test.YtfcpgeanbklleaaGreatDoorTop
import Derived.Test.YtfcpgeanbklleaaGreatDoorStops
import Derived.Deep.Slices
set_option linter.unusedSectionVars false
set_option linter.unusedSimpArgs false
set_option linter.unusedVariables false
namespace Ab
open Go

section
variable {P : Program} {W : World}

/-- Blocks, and where they lie. -/
structure Dec (P : Program) (W : World) (bs : List Blk) (ss : List Spot) : Prop where
  len : bs.length = ss.length
  ro : ∀ x ∈ bs, x.rw = false
  dom : ∀ s ∈ ss, s.blk < W.heap.size
  blk : ∀ (i : Nat) (s : Spot) (x : Blk), ss[i]? = some s → bs[i]? = some x → BRel P (injOf ss) s x (W.heap[s.blk]?)

theorem injOf_le (ss t : List Spot) : (injOf ss).le (injOf (ss ++ t)) := by
  intro b s h
  have h' : ss[b]? = some s := h
  show (ss ++ t)[b]? = some s
  rw [List.getElem?_append_left (List.getElem?_eq_some_iff.1 h').1]
  exact h'

theorem heapOf_ext (bs t : List Blk) : Ext (heapOf bs) (heapOf (bs ++ t)) := by
  refine ⟨fun b x h => ⟨?_, ?_⟩, by show bs.length ≤ (bs ++ t).length; simp⟩
  · have h' : bs[b]? = some x := h.get
    show (bs ++ t)[b]? = some x
    rw [List.getElem?_append_left (List.getElem?_eq_some_iff.1 h').1]
    exact h'
  · have := h.lt
    show b < (bs ++ t).length
    have h' : b < bs.length := this
    simp; omega

theorem Dec.push {bs : List Blk} {ss : List Spot} (h : Dec P W bs ss) {x : Blk} {s : Spot} (hro : x.rw = false) (hd : s.blk < W.heap.size) (hb : BRel P (injOf (ss ++ [s])) s x (W.heap[s.blk]?)) : Dec P W (bs ++ [x]) (ss ++ [s]) := by
  refine ⟨by simp [h.len], ?_, ?_, ?_⟩
  · intro y hy
    rcases List.mem_append.1 hy with hy | hy
    · exact h.ro y hy
    · simp at hy; subst hy; exact hro
  · intro y hy
    rcases List.mem_append.1 hy with hy | hy
    · exact h.dom y hy
    · simp at hy; subst hy; exact hd
  · intro i s' x' h1 h2
    by_cases hi : i < ss.length
    · rw [List.getElem?_append_left hi] at h1
      rw [List.getElem?_append_left (by rw [h.len]; exact hi)] at h2
      exact (h.blk i s' x' h1 h2).mono (injOf_le ss [s])
    · rw [List.getElem?_append_right (by omega)] at h1
      rw [List.getElem?_append_right (by rw [h.len]; omega)] at h2
      have h0 : i - ss.length = 0 := by
        have := (List.getElem?_eq_some_iff.1 h1).1
        simp at this; omega
      rw [h.len, h0] at h2
      rw [h0] at h1
      simp at h1 h2
      subst h1; subst h2
      exact hb

theorem flat_get {α : Type} {enc : α → List Value} {esz : Nat} : ∀ (l : List α) (j : Nat) (v : Value), (∀ x ∈ l, (enc x).length = esz) → (l.flatMap enc)[j]? = some v → ∃ i f x, j = i * esz + f ∧ f < esz ∧ l[i]? = some x ∧ (enc x)[f]? = some v
  | [], j, v, _, h => by simp at h
  | x :: l, j, v, hs, h => by
    rw [List.flatMap_cons] at h
    have hx := hs x (by simp)
    by_cases hj : j < esz
    · rw [List.getElem?_append_left (by omega)] at h
      exact ⟨0, j, x, by omega, hj, rfl, h⟩
    · rw [List.getElem?_append_right (by omega), hx] at h
      obtain ⟨i, f, y, h1, h2, h3, h4⟩ := flat_get l (j - esz) v (fun y hy => hs y (by simp [hy])) h
      exact ⟨i + 1, f, y, by rw [Nat.add_mul]; omega, h2, by simpa using h3, h4⟩

theorem cell_spot {a : Addr} {v : Value} (h : W.cell? a = some v) : a = ⟨a.block, a.off, none⟩ ∧ ∃ c t fz, W.heap[a.block]? = some (.cells c t fz) ∧ c[a.off]? = some v := by
  unfold World.cell? at h
  split at h
  · rename_i c t fz hc
    split at h
    · cases h
    · rename_i hs
      refine ⟨?_, c, t, fz, hc, h⟩
      obtain ⟨b, o, s⟩ := a
      cases s with
      | none => rfl
      | some x => simp at hs
  · cases h

section
variable {K : Type} {enc0 : TypeId × Value → K} {base : Nat} {spare : Nat → Bool} {held : Bool}

/-- A SLICE, each of whose elements is told. -/
theorem dec_slice {α : Type} {enc : α → List Value} {esz : Nat} {t e : TypeId} (hsz : P.cellsOf e = esz) (hesz : 0 < esz) (henc : ∀ x, (enc x).length = esz) (hsp : ∀ b, spare b = true)
    (Good : List Blk → α → Prop) (gmono : ∀ bs t x, Good bs x → Good (bs ++ t) x)
    (dec : ∀ (bs : List Blk) (ss : List Spot) (n : Nat) (cs : List Value) y, Dec P W bs ss → DataW.trod enc0 P W base spare held n e cs = some y → ∃ bs' ss' x, Dec P W (bs ++ bs') (ss ++ ss') ∧ VsRel (injOf (ss ++ ss')) (enc x) cs ∧ Good (bs ++ bs') x)
    (bs : List Blk) (ss : List Spot) (fuel : Nat) (cs : List Value) (y : DataW K × List MemPlace) (hd : Dec P W bs ss) (ht : P.underlying t = some (.slice e)) (h : DataW.trod enc0 P W base spare held fuel t cs = some y) :
    ∃ bs' ss' p n c l, Dec P W (bs ++ bs') (ss ++ ss') ∧ VsRel (injOf (ss ++ ss')) [.slice p n c] cs ∧ SlP (heapOf (bs ++ bs')) esz enc p n l ∧ (p = none ∨ ∃ b o, p = some ⟨b, o, none⟩) ∧ ∀ x ∈ l, Good (bs ++ bs') x := by
  rcases Deep.open_slice ht h with ⟨rfl, _⟩ | ⟨a, len, cap, m, n, D, Pl, rfl, hb, hlc, hmax, hm, _, hx⟩
  · exact ⟨[], [], none, 0, 0, [], by simpa using hd, .cons .nilSlice .nil, ⟨rfl, by simp, by intro i x hx; simp at hx⟩, .inl rfl, by simp⟩
  rw [hsp, if_pos rfl] at hm
  subst hm
  rw [hsz] at hx
  by_cases h0 : m = 0
  · subst h0
    have : len = 0 := by omega
    subst this
    exact ⟨[], [], some ⟨0, 0, none⟩, 0, 0, [], by simpa using hd, .cons .empx .nil, ⟨rfl, by simp, by intro i x hx; simp at hx⟩, .inr ⟨0, 0, rfl⟩, by simp⟩
  have hcells : ∀ i, i < m → ∃ cs', cs'.length = esz ∧ (∀ f, f < esz → W.cell? ((a.add (i * esz)).add f) = cs'[f]?) ∧ DataW.trod enc0 P W base spare held n e cs' = some (D i, Pl i) := by
    intro i hi
    obtain ⟨cs', h1, h2⟩ := hx i hi
    obtain ⟨_, h3, h4⟩ := World.cells?_some h1
    exact ⟨cs', h3, h4, h2⟩
  -- where it lies
  obtain ⟨cs0, z1, z2, _⟩ := hcells 0 (by omega)
  have z3 := z2 0 hesz
  rw [Nat.zero_mul] at z3
  have ha0 : (a.add 0).add 0 = a := rfl
  rw [ha0, List.getElem?_eq_getElem (by omega)] at z3
  obtain ⟨ha, c, ty, fz, hc, _⟩ := cell_spot z3
  have hadd : ∀ i f, (a.add (i * esz)).add f = ⟨a.block, a.off + (i * esz + f), none⟩ := by
    intro i f
    rw [Deep.add_add]
    unfold Addr.add
    split
    · rename_i h; rw [ha, h]; rfl
    · rfl
  have hget : ∀ k v, W.cell? ⟨a.block, a.off + k, none⟩ = some v → c[a.off + k]? = some v := by
    intro k v hk
    obtain ⟨_, c', ty', fz', hc', hv⟩ := cell_spot hk
    rw [hc] at hc'
    cases hc'
    exact hv
  -- the elements, one by one
  have elems : ∀ k, k ≤ len → ∃ (bs' : List Blk) (ss' : List Spot) (l : List α), l.length = k ∧ Dec P W (bs ++ bs') (ss ++ ss') ∧ ∀ (i : Nat) x, l[i]? = some x → Good (bs ++ bs') x ∧ ∃ cs', cs'.length = esz ∧ (∀ f, f < esz → W.cell? ((a.add (i * esz)).add f) = cs'[f]?) ∧ VsRel (injOf (ss ++ ss')) (enc x) cs' := by
    intro k
    induction k with
    | zero => intro _; exact ⟨[], [], [], rfl, by simpa using hd, by intro i x hx; simp at hx⟩
    | succ k ih =>
      intro hk
      obtain ⟨bs', ss', l, i1, i2, i3⟩ := ih (by omega)
      obtain ⟨cs', c1, c2, c3⟩ := hcells k (by omega)
      obtain ⟨bs2, ss2, x, d1, d2, d3⟩ := dec _ _ _ _ _ i2 c3
      refine ⟨bs' ++ bs2, ss' ++ ss2, l ++ [x], by simp [i1], by rw [← List.append_assoc, ← List.append_assoc]; exact d1, ?_⟩
      rw [← List.append_assoc, ← List.append_assoc]
      intro i z hz
      by_cases hi : i < l.length
      · rw [List.getElem?_append_left hi] at hz
        obtain ⟨g, cs2, e1, e2, e3⟩ := i3 i z hz
        exact ⟨gmono _ _ _ g, cs2, e1, e2, e3.mono (injOf_le _ _)⟩
      · rw [List.getElem?_append_right (by omega)] at hz
        have hik : i - l.length = 0 := by
          have := (List.getElem?_eq_some_iff.1 hz).1
          simp at this; omega
        rw [hik] at hz
        simp at hz
        subst hz
        have : i = k := by omega
        subst this
        exact ⟨d3, cs', c1, c2, d2⟩
  obtain ⟨bs', ss', l, l1, l2, l3⟩ := elems len (Nat.le_refl _)
  have hall : ∀ x ∈ l, (enc x).length = esz := fun x _ => henc x
  have hid : (bs ++ bs').length = (ss ++ ss').length := l2.len
  let s : Spot := ⟨a.block, a.off, 0, esz⟩
  have hblk : BRel P (injOf (ss ++ ss' ++ [s])) s (.cells true esz (l.flatMap enc)) (W.heap[s.blk]?) := by
    refine ⟨c, ty, fz, hc, rfl, ?_, fun h => by cases h⟩
    intro j v hv
    obtain ⟨i, f, x, rfl, hf, hxi, hvf⟩ := flat_get l j v hall hv
    obtain ⟨_, cs', e1, e2, e3⟩ := l3 i x hxi
    obtain ⟨v', v1, v2⟩ := e3.get hvf
    refine ⟨v', hget _ _ ?_, v2.mono (injOf_le _ _)⟩
    rw [← hadd, e2 f hf, v1]
  have hdom : s.blk < W.heap.size := (Array.getElem?_eq_some_iff.1 hc).1
  have dp := l2.push (x := .cells true esz (l.flatMap enc)) (s := s) rfl hdom hblk
  have hlast : injOf (ss ++ ss' ++ [s]) (bs ++ bs').length = some s := by
    show (ss ++ ss' ++ [s])[(bs ++ bs').length]? = some s
    rw [hid, List.getElem?_append_right (Nat.le_refl _)]
    simp
  have hat : At (heapOf (bs ++ bs' ++ [.cells true esz (l.flatMap enc)])) (bs ++ bs').length (.cells true esz (l.flatMap enc)) := by
    refine ⟨?_, ?_⟩
    · show (bs ++ bs' ++ [Blk.cells true esz (l.flatMap enc)])[(bs ++ bs').length]? = _
      rw [List.getElem?_append_right (Nat.le_refl _)]
      simp
    · show _ < (bs ++ bs' ++ [_]).length
      simp
  refine ⟨bs' ++ [.cells true esz (l.flatMap enc)], ss' ++ [s], some ⟨(bs ++ bs').length, 0, none⟩, len, m, l, ?_, ?_, ?_, .inr ⟨_, _, rfl⟩, ?_⟩
  · rw [← List.append_assoc, ← List.append_assoc]; exact dp
  · rw [← List.append_assoc]
    refine .cons ?_ .nil
    have hv := VRel.exact (j := injOf (ss ++ ss' ++ [s])) (o := 0) (len := len) (cap := m) hlast (by unfold openCap; unfold maxLen at hmax; omega) hlc
    rw [ha]
    exact hv
  · rw [← List.append_assoc]
    have := hat.slP hall
    rw [l1] at this
    exact this
  · intro x hx
    rw [← List.append_assoc]
    obtain ⟨i, hi1, hi2⟩ := List.getElem_of_mem hx
    exact gmono _ _ _ (l3 i x (by rw [List.getElem?_eq_getElem hi1, hi2])).1
end

end
end Ab
