/- Part of the proof of this claim: text W4. -/
import Derived.Test.YtfcpgeanbklleaaGreatDoorW1
import Derived.Test.YtfcpgeanbklleaaGreatDoorStops
set_option linter.unusedSectionVars false
set_option linter.unusedSimpArgs false
set_option linter.unusedVariables false
namespace LV
open Go Ab
set_option maxRecDepth 100000

structure Pgr where
  called : Bool
  last : Int
  answer : Int

def encQ (q : Pgr) : List Value := [.bool q.called, .int .i64 q.last, .int .i64 q.answer]

def stepQ (q : Pgr) (x : Pg) : Pgr :=
  if x.kind = 1 then ⟨true, x.tick, 0⟩ else if q.called = true then { q with answer := if x.kind = 2 then 1 else 2 } else q

def pagersL (T : Int) : List Pg → List Pgr → List Pgr
  | [], qs => qs
  | x :: l, qs => if T < x.tick then qs else pagersL T l (qs.set x.hand.toNat (stepQ (qs.getD x.hand.toNat ⟨false, 0, 0⟩) x))

def q0 : Pgr := ⟨false, 0, 0⟩

theorem encQ_size (l : List Pgr) : ∀ x ∈ l, (encQ x).length = 3 := fun _ _ => rfl

variable {B : CallPred} (hB : BaseMono B)
include hB

theorem s52 {hands tick : Int} {p : Option Addr} {n c : Nat} {l : List Pg} {H : Heap} {R : Value → Heap → Prop} (hl : SlP H 3 encP p n l) (hk : PagesOk hands n l tick)
    (h1 : ∀ H' p', Ext H H' → SlP H' 3 encQ p' hands.toNat (pagersL tick l (List.replicate hands.toNat q0)) → R (.slice p' hands.toNat hands.toNat) H') :
    ACall AP B (.fn 52) [.int .i64 hands, .slice p n c, .int .i64 tick] H R := by
  have hlen := hl.len
  have hm := hk.many
  have hnn := hk.len
  (refine run_fn hB (a := a52) ap52 (by decide +kernel) rfl (by decide) ?_; conv => whnf)
  refine makeP_ok (by omega) (by omega) (by omega) ?_
  (conv => whnf)
  generalize hH : H.push _ = H1
  have hE : Ext H H1 := by rw [← hH]; exact exT
  have hA : At H1 H.size (.cells false 3 ((List.replicate hands.toNat q0).flatMap encQ)) := by
    rw [← hH, ← repl_flat (enc := encQ) (x := q0) (z := [.bool false, .int .i64 0, .int .i64 0]) rfl]
    exact At.self
  refine loop_pins (CallMono.acall hB) (σ := Nat × List Pgr) (fun s => [(2, .int .i64 tick), (7, .slice (some ⟨H.size, 0, none⟩) hands.toNat hands.toNat), (13, .slice p n c), (14, .int .i64 (n : Int)), (15, .int .i64 (s.1 : Int))])
    (fun s H' => Ext H H' ∧ s.1 ≤ n ∧ s.2.length = hands.toNat ∧ At H' H.size (.cells false 3 (s.2.flatMap encQ)) ∧ pagersL tick l (List.replicate hands.toNat q0) = pagersL tick (l.drop s.1) s.2) (fun s => n - s.1) (0, List.replicate hands.toNat q0) ?_ ?_ ?_
  · exact ⟨rfl, rfl, rfl, rfl, rfl, trivial⟩
  · exact ⟨hE, by simp, by simp, hA, by simp⟩
  rintro ⟨i, qs⟩ E H' ⟨hE1, k1, k2, k3, k4⟩
  dsimp only at k1 k2 k3 k4
  have hsz := hE1.size
  have hblt := k3.lt
  (conv => whnf)
  refine ifP.mk (fun hlt => ?_) (fun hge => ?_)
  · (conv => whnf)
    obtain ⟨x, hx⟩ : ∃ x, l[i]? = some x := ⟨l[i], by simp⟩
    have ok := hk.all i x hx
    have o1 := ok.hand
    have o2 := ok.kind
    have hl' := hl.ext hE1
    have hs : l.drop i = x :: l.drop (i + 1) := by
      have hi := (List.getElem?_eq_some_iff.1 hx)
      rw [List.drop_eq_getElem_cons hi.1, hi.2]
    rw [hs] at k4
    simp only [pagersL] at k4
    (repeat (first | (refine numP.mk ?_ ?_; exact fN; conv => whnf) | ((first | apply loadP_get | apply loadP_agg' | apply storeP_getR); exact atT; rfl; conv => whnf) | ((first | apply loadP_cells0 | apply loadP_cellsA | apply idxP_sl); (first | exact ceC | exact slC); (first | rfl | assumption); (try intro _ _ _); conv => whnf) | (apply loadP_cells; exact ceC; rfl; conv => whnf)))
    refine ifP.mk (fun b1 => ?_) (fun b1 => ?_)
    · (conv => whnf)
      rw [if_pos b1] at k4
      rw [k4] at h1
      have hq := k3.slP (encQ_size qs)
      rw [k2] at hq
      exact h1 _ _ exT (hq.ext exT)
    (conv => whnf)
    rw [if_neg b1] at k4
    (repeat (first | (refine numP.mk ?_ ?_; exact fN; conv => whnf) | ((first | apply loadP_get | apply loadP_agg' | apply storeP_getR); exact atT; rfl; conv => whnf) | ((first | apply loadP_cells0 | apply loadP_cellsA | apply idxP_sl); (first | exact ceC | exact slC); (first | rfl | assumption); (try intro _ _ _); conv => whnf) | (apply loadP_cells; exact ceC; rfl; conv => whnf)))
    refine idxP_slice (by omega) (by omega) ?_
    (conv => whnf)
    obtain ⟨q, hq⟩ : ∃ q, qs[x.hand.toNat]? = some q := ⟨qs[x.hand.toNat], by simp⟩
    rw [List.getD_eq_getElem?_getD, hq, Option.getD_some] at k4
    have hcq := k3.cells (encQ_size qs) hq
    (repeat (first | (refine numP.mk ?_ ?_; exact fN; conv => whnf) | ((first | apply loadP_get | apply loadP_agg' | apply storeP_getR); exact atT; rfl; conv => whnf) | ((first | apply loadP_cells0 | apply loadP_cellsA | apply idxP_sl); (first | exact ceC | exact slC); (first | rfl | assumption); (try intro _ _ _); conv => whnf) | (apply loadP_cells; exact ceC; rfl; conv => whnf)))
    have key : ∀ y H2, Ext H H2 → At H2 H.size (.cells false 3 ((qs.set x.hand.toNat y).flatMap encQ)) → y = stepQ q x →
        Ext H H2 ∧ i + 1 ≤ n ∧ (qs.set x.hand.toNat y).length = hands.toNat ∧ At H2 H.size (.cells false 3 ((qs.set x.hand.toNat y).flatMap encQ)) ∧ pagersL tick l (List.replicate hands.toNat q0) = pagersL tick (l.drop (i + 1)) (qs.set x.hand.toNat y) := by
      rintro y H2 e1 e2 rfl
      exact ⟨e1, by omega, by simp [k2], e2, k4⟩
    refine ifP.mk (fun b2 => ?_) (fun b2 => ?_)
    · (conv => whnf)
      (repeat (first | (refine numP.mk ?_ ?_; exact fN; conv => whnf) | ((first | apply loadP_get | apply loadP_agg' | apply storeP_getR); exact atT; rfl; conv => whnf) | ((first | apply loadP_cells0 | apply loadP_cellsA | apply idxP_sl); (first | exact ceC | exact slC); (first | rfl | assumption); (try intro _ _ _); conv => whnf) | (apply loadP_cells; exact ceC; rfl; conv => whnf)))
      refine storeP_elem (k := x.hand.toNat) (f := 0) (x := q) (y := ⟨true, x.tick, 0⟩) atT (encQ_size qs) hq (by omega) rfl (by decide) rfl rfl ?_
      (conv => whnf)
      (repeat (first | (refine numP.mk ?_ ?_; exact fN; conv => whnf) | ((first | apply loadP_get | apply loadP_agg' | apply storeP_getR); exact atT; rfl; conv => whnf) | ((first | apply loadP_cells0 | apply loadP_cellsA | apply idxP_sl); (first | exact ceC | exact slC); (first | rfl | assumption); (try intro _ _ _); conv => whnf) | (apply loadP_cells; exact ceC; rfl; conv => whnf)))
      refine ⟨(i + 1, qs.set x.hand.toNat ⟨true, x.tick, 0⟩), ⟨rfl, rfl, rfl, rfl, rfl, trivial⟩, key _ _ exT atT (by simp [stepQ, b2]), by show n - (i + 1) < n - i; omega⟩
    · (conv => whnf)
      (repeat (first | (refine numP.mk ?_ ?_; exact fN; conv => whnf) | ((first | apply loadP_get | apply loadP_agg' | apply storeP_getR); exact atT; rfl; conv => whnf) | ((first | apply loadP_cells0 | apply loadP_cellsA | apply idxP_sl); (first | exact ceC | exact slC); (first | rfl | assumption); (try intro _ _ _); conv => whnf) | (apply loadP_cells; exact ceC; rfl; conv => whnf)))
      refine brP_intro (fun b3 => ?_) (fun b3 => ?_)
      · (conv => whnf)
        refine mapUpdP_ok (es := []) (clock := 0) (es' := [{ key := .int .i64 2, val := .int .i64 1, born := 0 }]) (clock' := 1) atT rfl rfl ?_
        (conv => whnf)
        refine mapUpdP_ok (es := [{ key := .int .i64 2, val := .int .i64 1, born := 0 }]) (clock := 1) (es' := [{ key := .int .i64 2, val := .int .i64 1, born := 0 }, { key := .int .i64 3, val := .int .i64 2, born := 1 }]) (clock' := 2) atT rfl rfl ?_
        (conv => whnf)
        (repeat (first | (refine numP.mk ?_ ?_; exact fN; conv => whnf) | ((first | apply loadP_get | apply loadP_agg' | apply storeP_getR); exact atT; rfl; conv => whnf) | ((first | apply loadP_cells0 | apply loadP_cellsA | apply idxP_sl); (first | exact ceC | exact slC); (first | rfl | assumption); (try intro _ _ _); conv => whnf) | (apply loadP_cells; exact ceC; rfl; conv => whnf)))
        have hs2 : ∀ (y : Pgr), y = stepQ q x → y = stepQ q x := fun _ h => h
        rcases (by omega : x.kind = 2 ∨ x.kind = 3) with b4 | b4
        · refine lookupP_some (i := 0) (v := .int .i64 1) atT rfl (show findEnt .int (.int .i64 x.kind) [{ key := .int .i64 2, val := .int .i64 1, born := 0 }, { key := .int .i64 3, val := .int .i64 2, born := 1 }] 0 = _ by rw [b4]; rfl) ?_
          (conv => whnf)
          refine storeP_elem (k := x.hand.toNat) (f := 2) (x := q) (y := { q with answer := 1 }) atT (encQ_size qs) hq (by omega) rfl (by decide) rfl rfl ?_
          (conv => whnf)
          (repeat (first | (refine numP.mk ?_ ?_; exact fN; conv => whnf) | ((first | apply loadP_get | apply loadP_agg' | apply storeP_getR); exact atT; rfl; conv => whnf) | ((first | apply loadP_cells0 | apply loadP_cellsA | apply idxP_sl); (first | exact ceC | exact slC); (first | rfl | assumption); (try intro _ _ _); conv => whnf) | (apply loadP_cells; exact ceC; rfl; conv => whnf)))
          refine ⟨(i + 1, qs.set x.hand.toNat { q with answer := 1 }), ⟨rfl, rfl, rfl, rfl, rfl, trivial⟩, key _ _ exT atT (by simp [stepQ, b2, b3, b4]), by show n - (i + 1) < n - i; omega⟩
        · refine lookupP_some (i := 1) (v := .int .i64 2) atT rfl (show findEnt .int (.int .i64 x.kind) [{ key := .int .i64 2, val := .int .i64 1, born := 0 }, { key := .int .i64 3, val := .int .i64 2, born := 1 }] 0 = _ by rw [b4]; rfl) ?_
          (conv => whnf)
          refine storeP_elem (k := x.hand.toNat) (f := 2) (x := q) (y := { q with answer := 2 }) atT (encQ_size qs) hq (by omega) rfl (by decide) rfl rfl ?_
          (conv => whnf)
          (repeat (first | (refine numP.mk ?_ ?_; exact fN; conv => whnf) | ((first | apply loadP_get | apply loadP_agg' | apply storeP_getR); exact atT; rfl; conv => whnf) | ((first | apply loadP_cells0 | apply loadP_cellsA | apply idxP_sl); (first | exact ceC | exact slC); (first | rfl | assumption); (try intro _ _ _); conv => whnf) | (apply loadP_cells; exact ceC; rfl; conv => whnf)))
          refine ⟨(i + 1, qs.set x.hand.toNat { q with answer := 2 }), ⟨rfl, rfl, rfl, rfl, rfl, trivial⟩, key _ _ exT atT (by simp [stepQ, b2, b3, b4]), by show n - (i + 1) < n - i; omega⟩
      · (conv => whnf)
        (repeat (first | (refine numP.mk ?_ ?_; exact fN; conv => whnf) | ((first | apply loadP_get | apply loadP_agg' | apply storeP_getR); exact atT; rfl; conv => whnf) | ((first | apply loadP_cells0 | apply loadP_cellsA | apply idxP_sl); (first | exact ceC | exact slC); (first | rfl | assumption); (try intro _ _ _); conv => whnf) | (apply loadP_cells; exact ceC; rfl; conv => whnf)))
        have hset : qs.set x.hand.toNat q = qs := by
          apply List.ext_getElem?
          intro j
          by_cases hj : j = x.hand.toNat
          · subst hj
            rw [List.getElem?_set_self (by omega), hq]
          · rw [List.getElem?_set_ne (Ne.symm hj)]
        refine ⟨(i + 1, qs.set x.hand.toNat q), ⟨rfl, rfl, rfl, rfl, rfl, trivial⟩, key _ _ exT (by rw [hset]; exact atT) (by simp [stepQ, b2, b3]), by show n - (i + 1) < n - i; omega⟩
  · (conv => whnf)
    have : l.drop i = [] := List.drop_eq_nil_of_le (by omega)
    rw [this] at k4
    simp only [pagersL] at k4
    rw [k4] at h1
    have hq := k3.slP (encQ_size qs)
    rw [k2] at hq
    exact h1 _ _ hE1 hq
end LV
