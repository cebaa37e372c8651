/- Part of the proof of this claim: text W5. -/
import Derived.Test.YtfcpgeanbklleaaGreatDoorW4
set_option linter.unusedSectionVars false
set_option linter.unusedSimpArgs false
set_option linter.unusedVariables false
namespace LV
open Go Ab
set_option maxRecDepth 100000

def ansL (hands tick : Int) (l : List Pg) : List Int := (pagersL tick l (List.replicate hands.toNat q0)).map (·.answer)

theorem pagersL_length (T : Int) : ∀ (l : List Pg) (qs : List Pgr), (pagersL T l qs).length = qs.length
  | [], _ => rfl
  | x :: l, qs => by
    simp only [pagersL]
    split
    · rfl
    · rw [pagersL_length T l]; simp

variable {B : CallPred} (hB : BaseMono B)
include hB

theorem s13 {hands tick : Int} {p : Option Addr} {n c : Nat} {l : List Pg} {H : Heap} {R : Value → Heap → Prop} (hl : SlP H 3 encP p n l) (hk : PagesOk hands n l tick)
    (h1 : ∀ H' p' c', Ext H H' → SlP H' 1 encI p' hands.toNat (ansL hands tick l) → R (.tuple ⟨[.slice p' hands.toNat c', .int .i64 0]⟩) H') :
    ACall AP B (.fn 13) [.int .i64 hands, .slice p n c, .int .i64 tick] H R := by
  have hm := hk.many
  (refine run_fn hB (a := a13) ap13 (by decide +kernel) rfl (by decide) ?_; conv => whnf)
  refine callP_fn ?_
  refine s51 hB hl hk fun H1 e1 => ?_
  (conv => whnf)
  refine ifP.mk (fun a1 => absurd rfl a1) (fun _ => ?_)
  (conv => whnf)
  refine callP_fn ?_
  refine s52 hB (hl.ext e1) hk fun H2 p2 e2 hq => ?_
  (conv => whnf)
  have hqs := pagersL_length tick l (List.replicate hands.toNat q0)
  rw [List.length_replicate] at hqs
  unfold ansL at h1
  generalize pagersL tick l (List.replicate hands.toNat q0) = qs at hq hqs h1
  have e12 := e1.trans e2
  refine loop_pins (CallMono.acall hB) (σ := Nat × Option Addr × Nat) (fun s => [(9, .slice s.2.1 s.1 s.2.2), (22, .slice p2 hands.toNat hands.toNat), (23, .int .i64 (hands.toNat : Int)), (24, .int .i64 (s.1 : Int))])
    (fun s H' => Ext H2 H' ∧ s.1 ≤ hands.toNat ∧ Own H2 H' 1 s.2.1 s.1 s.2.2 (((qs.take s.1).map (·.answer)).flatMap encI)) (fun s => hands.toNat - s.1) (0, none, 0) ?_ ?_ ?_
  · exact ⟨rfl, rfl, rfl, rfl, trivial⟩
  · exact ⟨Ext.refl _, by simp, .src .nil⟩
  rintro ⟨i, p3, c3⟩ E H' ⟨e3, k1, k2⟩
  dsimp only at k1 k2
  (conv => whnf)
  refine ifP.mk (fun hlt => ?_) (fun hge => ?_)
  · (conv => whnf)
    obtain ⟨q, hx⟩ : ∃ q, qs[i]? = some q := ⟨qs[i], by simp⟩
    have hq' := hq.ext e3
    (repeat (first | (refine numP.mk ?_ ?_; exact fN; conv => whnf) | ((first | apply loadP_get | apply loadP_agg' | apply storeP_getR); exact atT; rfl; conv => whnf) | ((first | apply loadP_cells0 | apply loadP_cellsA | apply idxP_sl); (first | exact ceC | exact slC); (first | rfl | assumption); (try intro _ _ _); conv => whnf) | (apply loadP_cells; exact ceC; rfl; conv => whnf)))
    refine appendP_own (H0 := H2) (C := ((qs.take i).map (·.answer)).flatMap encI) (xs := [.int .i64 q.answer]) exT (k2.mono exT) (Src.ofAt atT rfl) rfl (by decide) (by decide) (by omega) (by omega) ?_
    intro b H4 e4 hb hat hpr
    (conv => whnf)
    (repeat (first | (refine numP.mk ?_ ?_; exact fN; conv => whnf) | ((first | apply loadP_get | apply loadP_agg' | apply storeP_getR); exact atT; rfl; conv => whnf) | ((first | apply loadP_cells0 | apply loadP_cellsA | apply idxP_sl); (first | exact ceC | exact slC); (first | rfl | assumption); (try intro _ _ _); conv => whnf) | (apply loadP_cells; exact ceC; rfl; conv => whnf)))
    refine ⟨(i + 1, some ⟨b, 0, none⟩, openCap), ⟨rfl, rfl, rfl, rfl, trivial⟩, ⟨e4, by show i + 1 ≤ hands.toNat; omega, ?_⟩, by show hands.toNat - (i + 1) < hands.toNat - i; omega⟩
    have : ((qs.take (i + 1)).map (·.answer)).flatMap encI = ((qs.take i).map (·.answer)).flatMap encI ++ [.int .i64 q.answer] := by
      rw [List.map_take, List.map_take, take_succ_flat (x := q.answer) (by simp [hx])]; rfl
    show Own H2 H4 1 (some ⟨b, 0, none⟩) (i + 1) openCap (((qs.take (i + 1)).map (·.answer)).flatMap encI)
    rw [this]
    exact .mk hb hat (by rw [List.length_append, flat_length (esz := 1) _ (fun _ _ => rfl)]; simp; omega)
  · (conv => whnf)
    have hi : i = hands.toNat := by omega
    subst hi
    rw [List.take_of_length_le (by omega)] at k2
    exact h1 _ _ _ (e12.trans e3) (k2.srcOf.slP (by simp [hqs]) (fun _ _ => rfl))

/-- Whom to page again. -/
def againL (tick every : Int) : List Pgr → Nat → List Int
  | [], _ => []
  | q :: l, i => (if q.answer = 0 ∧ (q.called = false ∨ every ≤ tick - q.last) then [(i : Int)] else []) ++ againL tick every l (i + 1)

omit hB in
theorem againL_take (tick every : Int) : ∀ (l : List Pgr) (k i : Nat) (q : Pgr), l[i]? = some q → againL tick every (l.take (i + 1)) k = againL tick every (l.take i) k ++ (if q.answer = 0 ∧ (q.called = false ∨ every ≤ tick - q.last) then [((k + i : Nat) : Int)] else [])
  | [], _, _, _, h => by simp at h
  | a :: l, k, 0, q, h => by simp at h; subst h; simp [againL]
  | a :: l, k, i + 1, q, h => by
    simp only [List.take_succ_cons, againL]
    rw [againL_take tick every l (k + 1) i q (by simpa using h), List.append_assoc]
    have : k + 1 + i = k + (i + 1) := by omega
    rw [this]

omit hB in
theorem againL_len (tick every : Int) : ∀ (l : List Pgr) (k : Nat), (againL tick every l k).length ≤ l.length
  | [], _ => by simp [againL]
  | q :: l, k => by
    simp only [againL, List.length_append, List.length_cons]
    have := againL_len tick every l (k + 1)
    split <;> simp <;> omega

/-- The last of a pager that has been called is a tick. -/
def LastOk (qs : List Pgr) : Prop := ∀ (i : Nat) q, qs[i]? = some q → -200 ≤ q.last ∧ q.last ≤ 400

theorem s14 {hands tick every : Int} {p : Option Addr} {n c : Nat} {l : List Pg} {H : Heap} {R : Value → Heap → Prop} (hl : SlP H 3 encP p n l) (hk : PagesOk hands n l tick) (hev : 1 ≤ every ∧ every ≤ 100) (hlast : LastOk (pagersL tick l (List.replicate hands.toNat q0)))
    (h1 : ∀ H' p' m c', Ext H H' → SlP H' 1 encI p' m (againL tick every (pagersL tick l (List.replicate hands.toNat q0)) 0) → R (.tuple ⟨[.slice p' m c', .int .i64 0]⟩) H') :
    ACall AP B (.fn 14) [.int .i64 hands, .slice p n c, .int .i64 tick, .int .i64 every] H R := by
  have hm := hk.many
  have htk := hk.tick
  (refine run_fn hB (a := a14) ap14 (by decide +kernel) rfl (by decide) ?_; conv => whnf)
  refine callP_fn ?_
  refine s53 hB (fun _ _ => ?_) (fun a1 => absurd hev a1)
  (conv => whnf)
  refine callP_fn ?_
  refine s51 hB hl hk fun H1 e1 => ?_
  (conv => whnf)
  refine ifP.mk (fun a1 => absurd rfl a1) (fun _ => ?_)
  (conv => whnf)
  refine callP_fn ?_
  refine s52 hB (hl.ext e1) hk fun H2 p2 e2 hq => ?_
  (conv => whnf)
  have hqs := pagersL_length tick l (List.replicate hands.toNat q0)
  rw [List.length_replicate] at hqs
  generalize pagersL tick l (List.replicate hands.toNat q0) = qs at hq hqs h1 hlast
  have e12 := e1.trans e2
  refine loop_pins (CallMono.acall hB) (σ := Nat × Option Addr × Nat × Nat) (fun s => [(2, .int .i64 tick), (3, .int .i64 every), (11, .slice s.2.1 s.2.2.1 s.2.2.2), (27, .slice p2 hands.toNat hands.toNat), (28, .int .i64 (hands.toNat : Int)), (29, .int .i64 (s.1 : Int))])
    (fun s H' => Ext H2 H' ∧ s.1 ≤ hands.toNat ∧ s.2.2.1 ≤ s.1 ∧ Own H2 H' 1 s.2.1 s.2.2.1 s.2.2.2 ((againL tick every (qs.take s.1) 0).flatMap encI)) (fun s => hands.toNat - s.1) (0, none, 0, 0) ?_ ?_ ?_
  · exact ⟨rfl, rfl, rfl, rfl, rfl, rfl, trivial⟩
  · exact ⟨Ext.refl _, by simp, by simp, .src .nil⟩
  rintro ⟨i, p3, m3, c3⟩ E H' ⟨e3, k1, k3, k2⟩
  dsimp only at k1 k2 k3
  (conv => whnf)
  refine ifP.mk (fun hlt => ?_) (fun hge => ?_)
  · (conv => whnf)
    obtain ⟨q, hx⟩ : ∃ q, qs[i]? = some q := ⟨qs[i], by simp⟩
    have hq' := hq.ext e3
    have hla := hlast i q hx
    have htake := againL_take tick every qs 0 i q hx
    rw [Nat.zero_add] at htake
    have no : ∀ H5, Ext H' H5 → ¬ (q.answer = 0 ∧ (q.called = false ∨ every ≤ tick - q.last)) → Ext H2 H5 ∧ i + 1 ≤ hands.toNat ∧ m3 ≤ i + 1 ∧ Own H2 H5 1 p3 m3 c3 ((againL tick every (qs.take (i + 1)) 0).flatMap encI) := by
      intro H5 e5 hno
      rw [htake, if_neg hno, List.append_nil]
      exact ⟨e3.trans e5, by omega, by omega, k2.mono e5⟩
    have yes : ∀ b H5, Ext H2 H5 → H2.size ≤ b → At H5 b (.cells false 1 ((againL tick every (qs.take i) 0).flatMap encI ++ [.int .i64 (i : Int)])) → (q.answer = 0 ∧ (q.called = false ∨ every ≤ tick - q.last)) → Ext H2 H5 ∧ i + 1 ≤ hands.toNat ∧ m3 + 1 ≤ i + 1 ∧ Own H2 H5 1 (some ⟨b, 0, none⟩) (m3 + 1) openCap ((againL tick every (qs.take (i + 1)) 0).flatMap encI) := by
      intro b H5 e5 hb hat hy
      rw [htake, if_pos hy, List.flatMap_append]
      exact ⟨e5, by omega, by omega, .mk hb hat (by have := k2.len; simp [encI] at this ⊢; omega)⟩
    obtain ⟨cl, la, an⟩ := q
    dsimp only at hla htake no yes
    cases cl
    · (repeat (first | (refine numP.mk ?_ ?_; exact fN; conv => whnf) | ((first | apply loadP_get | apply loadP_agg' | apply storeP_getR); exact atT; rfl; conv => whnf) | ((first | apply loadP_cells0 | apply loadP_cellsA | apply idxP_sl); (first | exact ceC | exact slC); (first | rfl | assumption); (try intro _ _ _); conv => whnf) | (apply loadP_cells; exact ceC; rfl; conv => whnf)))
      refine ifP.mk (fun a1 => ?_) (fun a1 => ?_)
      · (conv => whnf)
        (repeat (first | (refine numP.mk ?_ ?_; exact fN; conv => whnf) | ((first | apply loadP_get | apply loadP_agg' | apply storeP_getR); exact atT; rfl; conv => whnf) | ((first | apply loadP_cells0 | apply loadP_cellsA | apply idxP_sl); (first | exact ceC | exact slC); (first | rfl | assumption); (try intro _ _ _); conv => whnf) | (apply loadP_cells; exact ceC; rfl; conv => whnf)))
        refine appendP_own (H0 := H2) (n := m3) (C := (againL tick every (qs.take i) 0).flatMap encI) (xs := [.int .i64 (i : Int)]) exT (k2.mono exT) (Src.ofAt atT rfl) rfl (by decide) (by decide) (by omega) (by omega) ?_
        intro b H4 e4 hb hat hpr
        (conv => whnf)
        (repeat (first | (refine numP.mk ?_ ?_; exact fN; conv => whnf) | ((first | apply loadP_get | apply loadP_agg' | apply storeP_getR); exact atT; rfl; conv => whnf) | ((first | apply loadP_cells0 | apply loadP_cellsA | apply idxP_sl); (first | exact ceC | exact slC); (first | rfl | assumption); (try intro _ _ _); conv => whnf) | (apply loadP_cells; exact ceC; rfl; conv => whnf)))
        exact ⟨(i + 1, some ⟨b, 0, none⟩, m3 + 1, openCap), ⟨rfl, rfl, rfl, rfl, rfl, rfl, trivial⟩, yes b H4 e4 hb hat ⟨a1, .inl rfl⟩, by show hands.toNat - (i + 1) < hands.toNat - i; omega⟩
      · (conv => whnf)
        (repeat (first | (refine numP.mk ?_ ?_; exact fN; conv => whnf) | ((first | apply loadP_get | apply loadP_agg' | apply storeP_getR); exact atT; rfl; conv => whnf) | ((first | apply loadP_cells0 | apply loadP_cellsA | apply idxP_sl); (first | exact ceC | exact slC); (first | rfl | assumption); (try intro _ _ _); conv => whnf) | (apply loadP_cells; exact ceC; rfl; conv => whnf)))
        refine ⟨(i + 1, p3, m3, c3), ⟨rfl, rfl, rfl, rfl, rfl, rfl, trivial⟩, no _ exT (fun h => a1 h.1), by show hands.toNat - (i + 1) < hands.toNat - i; omega⟩
    · (repeat (first | (refine numP.mk ?_ ?_; exact fN; conv => whnf) | ((first | apply loadP_get | apply loadP_agg' | apply storeP_getR); exact atT; rfl; conv => whnf) | ((first | apply loadP_cells0 | apply loadP_cellsA | apply idxP_sl); (first | exact ceC | exact slC); (first | rfl | assumption); (try intro _ _ _); conv => whnf) | (apply loadP_cells; exact ceC; rfl; conv => whnf)))
      refine ifP.mk (fun a1 => ?_) (fun a1 => ?_)
      · (conv => whnf)
        (repeat (first | (refine numP.mk ?_ ?_; exact fN; conv => whnf) | ((first | apply loadP_get | apply loadP_agg' | apply storeP_getR); exact atT; rfl; conv => whnf) | ((first | apply loadP_cells0 | apply loadP_cellsA | apply idxP_sl); (first | exact ceC | exact slC); (first | rfl | assumption); (try intro _ _ _); conv => whnf) | (apply loadP_cells; exact ceC; rfl; conv => whnf)))
        refine ifP.mk (fun a3 => ?_) (fun a3 => ?_)
        · (conv => whnf)
          (repeat (first | (refine numP.mk ?_ ?_; exact fN; conv => whnf) | ((first | apply loadP_get | apply loadP_agg' | apply storeP_getR); exact atT; rfl; conv => whnf) | ((first | apply loadP_cells0 | apply loadP_cellsA | apply idxP_sl); (first | exact ceC | exact slC); (first | rfl | assumption); (try intro _ _ _); conv => whnf) | (apply loadP_cells; exact ceC; rfl; conv => whnf)))
          refine appendP_own (H0 := H2) (n := m3) (C := (againL tick every (qs.take i) 0).flatMap encI) (xs := [.int .i64 (i : Int)]) exT (k2.mono exT) (Src.ofAt atT rfl) rfl (by decide) (by decide) (by omega) (by omega) ?_
          intro b H4 e4 hb hat hpr
          (conv => whnf)
          (repeat (first | (refine numP.mk ?_ ?_; exact fN; conv => whnf) | ((first | apply loadP_get | apply loadP_agg' | apply storeP_getR); exact atT; rfl; conv => whnf) | ((first | apply loadP_cells0 | apply loadP_cellsA | apply idxP_sl); (first | exact ceC | exact slC); (first | rfl | assumption); (try intro _ _ _); conv => whnf) | (apply loadP_cells; exact ceC; rfl; conv => whnf)))
          exact ⟨(i + 1, some ⟨b, 0, none⟩, m3 + 1, openCap), ⟨rfl, rfl, rfl, rfl, rfl, rfl, trivial⟩, yes b H4 e4 hb hat ⟨a1, .inr a3⟩, by show hands.toNat - (i + 1) < hands.toNat - i; omega⟩
        · (conv => whnf)
          (repeat (first | (refine numP.mk ?_ ?_; exact fN; conv => whnf) | ((first | apply loadP_get | apply loadP_agg' | apply storeP_getR); exact atT; rfl; conv => whnf) | ((first | apply loadP_cells0 | apply loadP_cellsA | apply idxP_sl); (first | exact ceC | exact slC); (first | rfl | assumption); (try intro _ _ _); conv => whnf) | (apply loadP_cells; exact ceC; rfl; conv => whnf)))
          refine ⟨(i + 1, p3, m3, c3), ⟨rfl, rfl, rfl, rfl, rfl, rfl, trivial⟩, no _ exT (fun h => by rcases h.2 with h | h <;> first | cases h | exact a3 h), by show hands.toNat - (i + 1) < hands.toNat - i; omega⟩
      · (conv => whnf)
        (repeat (first | (refine numP.mk ?_ ?_; exact fN; conv => whnf) | ((first | apply loadP_get | apply loadP_agg' | apply storeP_getR); exact atT; rfl; conv => whnf) | ((first | apply loadP_cells0 | apply loadP_cellsA | apply idxP_sl); (first | exact ceC | exact slC); (first | rfl | assumption); (try intro _ _ _); conv => whnf) | (apply loadP_cells; exact ceC; rfl; conv => whnf)))
        refine ⟨(i + 1, p3, m3, c3), ⟨rfl, rfl, rfl, rfl, rfl, rfl, trivial⟩, no _ exT (fun h => a1 h.1), by show hands.toNat - (i + 1) < hands.toNat - i; omega⟩
  · (conv => whnf)
    have hi : i = hands.toNat := by omega
    subst hi
    rw [List.take_of_length_le (by omega)] at k2
    exact h1 _ _ _ _ (e12.trans e3) (k2.srcOf.slP (by have := k2.len; rw [flat_length (enc := encI) (esz := 1) _ (fun _ _ => rfl)] at this; omega) (fun _ _ => rfl))
end LV
