/- Part of the proof of this claim: text W13. -/
import Derived.Test.YtfcpgeanbklleaaGreatDoorW12
set_option linter.unusedSectionVars false
set_option linter.unusedSimpArgs false
set_option linter.unusedVariables false
namespace LV
open Go Ab
set_option maxRecDepth 100000

/-- The same hand, its log laid elsewhere. -/
structure HdSame (h h' : Hd) : Prop where
  skills : h'.skills = h.skills
  lo : h'.lo = h.lo
  hi : h'.hi = h.hi
  n : h'.n = h.n
  answer : h'.answer = h.answer
  log : h'.log = h.log

/-- A log that a call has laid. -/
def LogAt (H : Heap) (h : Hd) : Prop := (h.n = 0 ∧ h.log = [] ∧ ∃ b, h.p = some ⟨b, 0, none⟩) ∨ ∃ b, h.p = some ⟨b, 0, none⟩ ∧ h.n = h.log.length ∧ At H b (.cells false 2 (h.log.flatMap encS))

theorem LogAt.slP {H : Heap} {h : Hd} (k : LogAt H h) : SlP H 2 encS h.p h.n h.log := by
  rcases k with ⟨h0, h1, b, h2⟩ | ⟨b, h1, h2, h3⟩
  · rw [h1]
    exact ⟨by simp [h0], by simp, by intro i x hx; simp at hx⟩
  · rw [h1, h2]
    exact h3.slP (fun _ _ => rfl)

theorem LogAt.form {H : Heap} {h : Hd} (k : LogAt H h) : h.p = none ∨ ∃ b o, h.p = some ⟨b, o, none⟩ := by
  rcases k with ⟨_, _, b, h2⟩ | ⟨b, h1, _⟩
  · exact .inr ⟨b, 0, h2⟩
  · exact .inr ⟨b, 0, h1⟩

theorem LogAt.keep {H H' : Heap} {h : Hd} (k : LogAt H h) (he : ∀ b C, At H b (.cells false 2 C) → At H' b (.cells false 2 C)) : LogAt H' h := by
  rcases k with k | ⟨b, h1, h2, h3⟩
  · exact .inl k
  · exact .inr ⟨b, h1, h2, he _ _ h3⟩

theorem HdSame.ok {h h' : Hd} (k : HdSame h h') (ok : HdOk h) : HdOk h' := by
  refine ⟨by rw [k.skills]; exact ok.skills, by rw [k.lo, k.hi]; exact ok.away, by rw [k.n]; exact ok.len, by rw [k.answer]; exact ok.answer, by rw [k.log]; exact ok.log⟩

theorem Mine.setNe {H0 H : Heap} {esz n c b : Nat} {p : Option Addr} {C D : List Value} {y : Blk} (h : Mine H0 H esz p n c C) (hb : At H b (.cells false 0 D)) (he : esz ≠ 0) : Mine H0 (H.set b y) esz p n c C := by
  cases h with
  | nil => exact .nil
  | mk h1 h2 h3 => exact .mk h1 (h2.setNe (h2.ne hb (by simp [he]))) h3

theorem LogAt.setNe {H : Heap} {h : Hd} {b e : Nat} {D : List Value} {y : Blk} (k : LogAt H h) (hb : At H b (.cells false e D)) (he : e ≠ 2) : LogAt (H.set b y) h :=
  k.keep fun c C hc => hc.setNe (hc.ne hb (by simp; omega))

/-- What a copy is made of. -/
def Copied (H : Heap) (l l' : List Hd) : Prop := ∀ (k : Nat) h', l'[k]? = some h' → (∃ h, l[k]? = some h ∧ HdSame h h') ∧ LogAt H h'

variable {B : CallPred} (hB : BaseMono B)
include hB

theorem s15 {s : Stn} {H : Heap} {R : Value → Heap → Prop} (hs : StnAt H s) (ok : StnOk s)
    (h1 : ∀ H' p' c' l', Ext H H' → Mine H H' 5 p' s.n c' (l'.flatMap encH) → l'.length = s.n → Copied H' s.hands l' → R (.agg ⟨[.slice p' s.n c', .int .i64 s.window, .int .i64 s.duty]⟩) H') :
    ACall AP B (.fn 15) [.agg ⟨encSt s⟩] H R := by
  have hl := hs.hands
  have hlen := hl.len
  have hn := ok.len
  (refine run_fn hB (a := a15) ap15 (by decide +kernel) rfl (by decide) ?_; conv => whnf)
  (repeat (first | (refine numP.mk (by unfold inI; first | omega | (dsimp only at *; omega)) ?_; conv => whnf) | ((first | apply loadP_get | apply loadP_agg' | apply storeP_getR); (focus ((repeat' (first | assumption | exact At.self | (refine At.setSelf (by (first | omega | (simp only [Heap.size_push, Heap.size_set]; omega)))) | apply At.push | (refine At.setNe ?_ (by (first | omega | (simp only [Heap.size_push, Heap.size_set]; omega)))) | (refine Ext.at' (by assumption) _ _ ?_))); done)); rfl; conv => whnf) | ((first | apply loadP_cells0 | apply loadP_cellsA | apply idxP_sl); (first | assumption | ((first | refine Cells.ext (by assumption) ?_ | refine SlP.ext (by assumption) ?_); (focus ((repeat' (first | assumption | exact Ext.refl _ | apply Ext.push | (refine Ext.set ?_ (by first | assumption | exact Nat.le_refl _ | exact Ext.size (by assumption) | omega | (simp only [Heap.size_push, Heap.size_set] at *; omega))))); done)))); (first | rfl | assumption); (try intro _ _ _); conv => whnf) | (apply loadP_cells; (first | assumption | ((first | refine Cells.ext (by assumption) ?_ | refine SlP.ext (by assumption) ?_); (focus ((repeat' (first | assumption | exact Ext.refl _ | apply Ext.push | (refine Ext.set ?_ (by first | assumption | exact Nat.le_refl _ | exact Ext.size (by assumption) | omega | (simp only [Heap.size_push, Heap.size_set] at *; omega))))); done)))); rfl; conv => whnf)))
  generalize hH : Heap.set _ _ _ = H1
  have e1 : Ext H H1 := by rw [← hH]; exact (by (repeat' (first | assumption | exact Ext.refl _ | apply Ext.push | (refine Ext.set ?_ (by first | assumption | exact Nat.le_refl _ | exact Ext.size (by assumption) | omega | (simp only [Heap.size_push, Heap.size_set] at *; omega))))))
  have a1 : At H1 H.size (.cells false 0 (encSt s)) := by rw [← hH]; exact (by (repeat' (first | assumption | exact At.self | (refine At.setSelf (by (first | omega | (simp only [Heap.size_push, Heap.size_set]; omega)))) | apply At.push | (refine At.setNe ?_ (by (first | omega | (simp only [Heap.size_push, Heap.size_set]; omega)))) | (refine Ext.at' (by assumption) _ _ ?_))))
  have a2 : At H1 (H.size + 1) (.cells false 0 [.slice none 0 0, .int .i64 0, .int .i64 0]) := by
    rw [← hH]
    refine At.setNe (At.setNe (At.push At.self) ?_) ?_ <;> simp only [Heap.size_push, Heap.size_set] <;> omega
  have a3 : At H1 (H.size + 2) (.cells false 0 [.slice none 0 0, .int .i64 s.window, .int .i64 s.duty]) := by
    rw [← hH]
    exact At.setSelf (by simp only [Heap.size_push, Heap.size_set]; omega)
  refine loop_pins (CallMono.acall hB) (σ := Nat × Option Addr × Nat × List Hd) (fun t => [(1, .pointer (some ⟨H.size, 0, none⟩)), (2, .pointer (some ⟨H.size + 1, 0, none⟩)), (3, .pointer (some ⟨H.size + 2, 0, none⟩)), (4, .int .i64 (t.1 : Int))])
    (fun t H' => Ext H H' ∧ t.1 ≤ s.n ∧ At H' H.size (.cells false 0 (encSt s)) ∧ At H' (H.size + 1) (.cells false 0 [.slice none 0 0, .int .i64 0, .int .i64 0]) ∧ At H' (H.size + 2) (.cells false 0 [.slice t.2.1 t.1 t.2.2.1, .int .i64 s.window, .int .i64 s.duty]) ∧ Mine H H' 5 t.2.1 t.1 t.2.2.1 (t.2.2.2.flatMap encH) ∧ t.2.2.2.length = t.1 ∧ Copied H' s.hands t.2.2.2) (fun t => s.n - t.1) (0, none, 0, []) ?_ ?_ ?_
  · exact ⟨rfl, rfl, rfl, rfl, trivial⟩
  · exact ⟨e1, by simp, a1, a2, a3, .nil, rfl, by intro k h' hk; simp at hk⟩
  rintro ⟨i, p2, c2, l⟩ E H2 ⟨e2, k1, b1, b2, b3, k2, k3, k4⟩
  dsimp only at k1 b3 k2 k3 k4
  have lt3 := b3.lt
  (conv => whnf)
  (repeat (first | (refine numP.mk (by unfold inI; first | omega | (dsimp only at *; omega)) ?_; conv => whnf) | ((first | apply loadP_get | apply loadP_agg' | apply storeP_getR); (focus ((repeat' (first | assumption | exact At.self | (refine At.setSelf (by (first | omega | (simp only [Heap.size_push, Heap.size_set]; omega)))) | apply At.push | (refine At.setNe ?_ (by (first | omega | (simp only [Heap.size_push, Heap.size_set]; omega)))) | (refine Ext.at' (by assumption) _ _ ?_))); done)); rfl; conv => whnf) | ((first | apply loadP_cells0 | apply loadP_cellsA | apply idxP_sl); (first | assumption | ((first | refine Cells.ext (by assumption) ?_ | refine SlP.ext (by assumption) ?_); (focus ((repeat' (first | assumption | exact Ext.refl _ | apply Ext.push | (refine Ext.set ?_ (by first | assumption | exact Nat.le_refl _ | exact Ext.size (by assumption) | omega | (simp only [Heap.size_push, Heap.size_set] at *; omega))))); done)))); (first | rfl | assumption); (try intro _ _ _); conv => whnf) | (apply loadP_cells; (first | assumption | ((first | refine Cells.ext (by assumption) ?_ | refine SlP.ext (by assumption) ?_); (focus ((repeat' (first | assumption | exact Ext.refl _ | apply Ext.push | (refine Ext.set ?_ (by first | assumption | exact Nat.le_refl _ | exact Ext.size (by assumption) | omega | (simp only [Heap.size_push, Heap.size_set] at *; omega))))); done)))); rfl; conv => whnf)))
  refine ifP.mk (fun hlt => ?_) (fun hge => ?_)
  · (conv => whnf)
    obtain ⟨x, hx⟩ : ∃ x, s.hands[i]? = some x := ⟨s.hands[i], by simp⟩
    have hm := List.mem_of_getElem? hx
    have hl' := hl.ext e2
    have hxo := ok.hands x hm
    have hxn := hxo.len
    have hsrc := (hs.logs x hm).toSrc (hs.forms x hm)
    (repeat (first | (refine numP.mk (by unfold inI; first | omega | (dsimp only at *; omega)) ?_; conv => whnf) | ((first | apply loadP_get | apply loadP_agg' | apply storeP_getR); (focus ((repeat' (first | assumption | exact At.self | (refine At.setSelf (by (first | omega | (simp only [Heap.size_push, Heap.size_set]; omega)))) | apply At.push | (refine At.setNe ?_ (by (first | omega | (simp only [Heap.size_push, Heap.size_set]; omega)))) | (refine Ext.at' (by assumption) _ _ ?_))); done)); rfl; conv => whnf) | ((first | apply loadP_cells0 | apply loadP_cellsA | apply idxP_sl); (first | assumption | ((first | refine Cells.ext (by assumption) ?_ | refine SlP.ext (by assumption) ?_); (focus ((repeat' (first | assumption | exact Ext.refl _ | apply Ext.push | (refine Ext.set ?_ (by first | assumption | exact Nat.le_refl _ | exact Ext.size (by assumption) | omega | (simp only [Heap.size_push, Heap.size_set] at *; omega))))); done)))); (first | rfl | assumption); (try intro _ _ _); conv => whnf) | (apply loadP_cells; (first | assumption | ((first | refine Cells.ext (by assumption) ?_ | refine SlP.ext (by assumption) ?_); (focus ((repeat' (first | assumption | exact Ext.refl _ | apply Ext.push | (refine Ext.set ?_ (by first | assumption | exact Nat.le_refl _ | exact Ext.size (by assumption) | omega | (simp only [Heap.size_push, Heap.size_set] at *; omega))))); done)))); rfl; conv => whnf)))
    generalize hH3 : ((H2.push _).set _ _).push _ = H3
    have e3 : Ext H2 H3 := by rw [← hH3]; exact (by (repeat' (first | assumption | exact Ext.refl _ | apply Ext.push | (refine Ext.set ?_ (by first | assumption | exact Nat.le_refl _ | exact Ext.size (by assumption) | omega | (simp only [Heap.size_push, Heap.size_set] at *; omega))))))
    have a5 : At H3 H2.size (.cells false 0 (encH x)) := by rw [← hH3]; exact At.push (At.setSelf (by rw [Heap.size_push]; omega))
    have lt5 := a5.lt
    refine appendP_copy (xs := x.log.flatMap encS) (hsrc.ext (e2.trans e3)) (ones_flat (fun _ => rfl) _) (by decide) (by omega) (by omega) fun q cq H4 e4 hq => ?_
    have a54 := e4.at' _ _ a5
    have b34 := e4.at' _ _ (e3.at' _ _ b3)
    have lt54 := a54.lt
    have lt34 := b34.lt
    (conv => whnf)
    refine storeP_get a54 rfl (Nat.le_of_ble_eq_true rfl) rfl ?_
    obtain ⟨x', hx'⟩ : ∃ x' : Hd, x' = ⟨x.skills, x.lo, x.hi, q, x.n, cq, x.answer, x.log⟩ := ⟨_, rfl⟩
    generalize hH5 : H4.set _ _ = H5
    have e45 : ∀ b y, At H4 b y → b ≠ H2.size → At H5 b y := by intro b y hb hne; rw [← hH5]; exact hb.setNe hne
    have a55 : At H5 H2.size (.cells false 0 (encH x')) := by rw [← hH5, hx']; exact At.setSelf lt54
    have b35 := e45 _ _ b34 (by omega)
    have e25 : Ext H2 H5 := by rw [← hH5]; exact Ext.set (e3.trans e4) (Nat.le_refl _)
    have e05 := e2.trans e25
    have b15 := e25.at' _ _ b1
    have b25 := e25.at' _ _ b2
    (conv => whnf)
    refine loadP_get b35 rfl ?_
    (conv => whnf)
    refine loadP_agg (vs := encH x') a55 (Nat.le_of_ble_eq_true rfl) rfl ?_
    (conv => whnf)
    have mine5 := k2.ext e25
    refine appendP_own (H0 := H) (n := i) (C := l.flatMap encH) (xs := encH x') e05.push (mine5.own.mono (by (repeat' (first | assumption | exact Ext.refl _ | apply Ext.push | (refine Ext.set ?_ (by first | assumption | exact Nat.le_refl _ | exact Ext.size (by assumption) | omega | (simp only [Heap.size_push, Heap.size_set] at *; omega))))))) (Src.ofAt (by (repeat' (first | assumption | exact At.self | (refine At.setSelf (by (first | omega | (simp only [Heap.size_push, Heap.size_set]; omega)))) | apply At.push | (refine At.setNe ?_ (by (first | omega | (simp only [Heap.size_push, Heap.size_set]; omega)))) | (refine Ext.at' (by assumption) _ _ ?_)))) rfl) rfl (by decide) (by decide) (by omega) (by omega) ?_
    intro b6 H6 e6 hb6 a6 hpr
    have keep : ∀ d e C, At H5 d (.cells false e C) → e ≠ 5 → At H6 d (.cells false e C) := by
      intro d e C hd he
      refine hpr d _ hd.push ?_
      generalize l.flatMap encH = L at mine5
      cases mine5 with
      | nil => exact .inr rfl
      | mk v1 v2 v3 => exact .inl fun a ha => by cases ha; exact v2.ne hd (by simp; omega)
    have b36 := keep _ _ _ b35 (by decide)
    have b16 := keep _ _ _ b15 (by decide)
    have b26 := keep _ _ _ b25 (by decide)
    have n61 : b6 ≠ H.size + 2 := a6.ne b36 (by simp)
    (conv => whnf)
    refine storeP_get b36 rfl (Nat.le_of_ble_eq_true rfl) rfl ?_
    (conv => whnf)
    (repeat (first | (refine numP.mk (by unfold inI; first | omega | (dsimp only at *; omega)) ?_; conv => whnf) | ((first | apply loadP_get | apply loadP_agg' | apply storeP_getR); (focus ((repeat' (first | assumption | exact At.self | (refine At.setSelf (by (first | omega | (simp only [Heap.size_push, Heap.size_set]; omega)))) | apply At.push | (refine At.setNe ?_ (by (first | omega | (simp only [Heap.size_push, Heap.size_set]; omega)))) | (refine Ext.at' (by assumption) _ _ ?_))); done)); rfl; conv => whnf) | ((first | apply loadP_cells0 | apply loadP_cellsA | apply idxP_sl); (first | assumption | ((first | refine Cells.ext (by assumption) ?_ | refine SlP.ext (by assumption) ?_); (focus ((repeat' (first | assumption | exact Ext.refl _ | apply Ext.push | (refine Ext.set ?_ (by first | assumption | exact Nat.le_refl _ | exact Ext.size (by assumption) | omega | (simp only [Heap.size_push, Heap.size_set] at *; omega))))); done)))); (first | rfl | assumption); (try intro _ _ _); conv => whnf) | (apply loadP_cells; (first | assumption | ((first | refine Cells.ext (by assumption) ?_ | refine SlP.ext (by assumption) ?_); (focus ((repeat' (first | assumption | exact Ext.refl _ | apply Ext.push | (refine Ext.set ?_ (by first | assumption | exact Nat.le_refl _ | exact Ext.size (by assumption) | omega | (simp only [Heap.size_push, Heap.size_set] at *; omega))))); done)))); rfl; conv => whnf)))
    have lt36 := b36.lt
    refine ⟨(i + 1, some ⟨b6, 0, none⟩, openCap, l ++ [x']), ⟨rfl, rfl, rfl, rfl, trivial⟩, ⟨Ext.set e6 (by omega), by show i + 1 ≤ s.n; omega, b16.setNe (by omega), b26.setNe (by omega), At.setSelf lt36, ?_, by simp [k3], ?_⟩, by show s.n - (i + 1) < s.n - i; omega⟩
    · show Mine H _ 5 (some ⟨b6, 0, none⟩) (i + 1) openCap ((l ++ [x']).flatMap encH)
      rw [List.flatMap_append]
      exact .mk hb6 (a6.setNe n61) (by rw [List.length_append, flat_length (enc := encH) (esz := 5) _ (fun _ _ => rfl), k3]; simp [encH]; omega)
    · intro k h' hk
      by_cases hki : k < l.length
      · rw [List.getElem?_append_left hki] at hk
        obtain ⟨g1, g2⟩ := k4 k h' hk
        exact ⟨g1, (g2.keep fun d C hd => keep _ _ _ (e25.at' _ _ hd) (by decide)).setNe b36 (by decide)⟩
      · rw [List.getElem?_append_right (by omega)] at hk
        have h0 : k - l.length = 0 := by
          have := (List.getElem?_eq_some_iff.1 hk).1
          simp at this; omega
        rw [h0] at hk
        simp at hk
        subst hk
        have hki' : k = i := by omega
        subst hki'
        subst hx'
        refine ⟨⟨x, hx, ⟨rfl, rfl, rfl, rfl, rfl, rfl⟩⟩, LogAt.setNe (D := [.slice p2 k c2, .int .i64 s.window, .int .i64 s.duty]) ?_ b36 (by decide)⟩
        have hln := (hs.logs x hm).len
        rcases hq with ⟨q1, q2⟩ | ⟨b, q1, q2, q3⟩
        · exact .inl ⟨q1, List.length_eq_zero_iff.1 (by show x.log.length = 0; omega), _, q2⟩
        · exact .inr ⟨b, q1, hln, keep _ _ _ (e45 _ _ q3 (by have := q3.ne a54 (by simp); exact this)) (by decide)⟩
  · (conv => whnf)
    (repeat (first | (refine numP.mk (by unfold inI; first | omega | (dsimp only at *; omega)) ?_; conv => whnf) | ((first | apply loadP_get | apply loadP_agg' | apply storeP_getR); (focus ((repeat' (first | assumption | exact At.self | (refine At.setSelf (by (first | omega | (simp only [Heap.size_push, Heap.size_set]; omega)))) | apply At.push | (refine At.setNe ?_ (by (first | omega | (simp only [Heap.size_push, Heap.size_set]; omega)))) | (refine Ext.at' (by assumption) _ _ ?_))); done)); rfl; conv => whnf) | ((first | apply loadP_cells0 | apply loadP_cellsA | apply idxP_sl); (first | assumption | ((first | refine Cells.ext (by assumption) ?_ | refine SlP.ext (by assumption) ?_); (focus ((repeat' (first | assumption | exact Ext.refl _ | apply Ext.push | (refine Ext.set ?_ (by first | assumption | exact Nat.le_refl _ | exact Ext.size (by assumption) | omega | (simp only [Heap.size_push, Heap.size_set] at *; omega))))); done)))); (first | rfl | assumption); (try intro _ _ _); conv => whnf) | (apply loadP_cells; (first | assumption | ((first | refine Cells.ext (by assumption) ?_ | refine SlP.ext (by assumption) ?_); (focus ((repeat' (first | assumption | exact Ext.refl _ | apply Ext.push | (refine Ext.set ?_ (by first | assumption | exact Nat.le_refl _ | exact Ext.size (by assumption) | omega | (simp only [Heap.size_push, Heap.size_set] at *; omega))))); done)))); rfl; conv => whnf)))
    have hi : i = s.n := by omega
    subst hi
    exact h1 _ _ _ l (by (repeat' (first | assumption | exact Ext.refl _ | apply Ext.push | (refine Ext.set ?_ (by first | assumption | exact Nat.le_refl _ | exact Ext.size (by assumption) | omega | (simp only [Heap.size_push, Heap.size_set] at *; omega)))))) (k2.setNe b2 (by decide)) k3 (fun k h' hk => ⟨(k4 k h' hk).1, (k4 k h' hk).2.setNe b2 (by decide)⟩)
end LV
