/- Part of the proof of this claim: text W2. -/
import Derived.Test.YtfcpgeanbklleaaGreatDoorW1
set_option linter.unusedSectionVars false
set_option linter.unusedSimpArgs false
set_option linter.unusedVariables false
namespace LV
open Go Ab
set_option maxRecDepth 100000

/-- A hand as it lies in cells: skills, away, the slice of the log, the answer; and what the log holds. -/
structure Hd where
  skills : Int
  lo : Int
  hi : Int
  p : Option Addr
  n : Nat
  c : Nat
  answer : Int
  log : List (Int × Int)

def encS (s : Int × Int) : List Value := [.int .i64 s.1, .int .i64 s.2]
def encH (h : Hd) : List Value := [.int .i64 h.skills, .int .i64 h.lo, .int .i64 h.hi, .slice h.p h.n h.c, .int .i64 h.answer]

def LogOk : Int → List (Int × Int) → Prop
  | _, [] => True
  | last, s :: l => last + 1 ≤ s.1 ∧ s.1 ≤ s.2 ∧ s.2 < 0 ∧ LogOk s.2 l

structure HdOk (h : Hd) : Prop where
  skills : 0 ≤ h.skills ∧ h.skills ≤ 255
  away : 0 ≤ h.lo ∧ h.lo ≤ h.hi ∧ h.hi ≤ 60
  len : h.n ≤ 10
  answer : 0 ≤ h.answer ∧ h.answer ≤ 2
  log : LogOk (-201) h.log

variable {B : CallPred} (hB : BaseMono B)
include hB

/-- The log from a place on, with the last tick. -/
theorem s90 {h : Hd} {H : Heap} {R : Value → Heap → Prop} (hl : SlP H 2 encS h.p h.n h.log) (h1 : ∀ H', Ext H H' → HdOk h → R (.bool true) H') (h2 : ∀ H', Ext H H' → ¬ HdOk h → R (.bool false) H') :
    ACall AP B (.fn 90) [.agg ⟨encH h⟩] H R := by
  (refine run_fn hB (a := a90) ap90 (by decide +kernel) rfl (by decide) ?_; conv => whnf)
  (repeat (first | (refine numP.mk (by unfold inI; first | omega | (dsimp only at *; omega)) ?_; conv => whnf) | ((first | apply loadP_get | apply loadP_agg' | apply storeP_getR); (focus ((repeat' (first | assumption | exact At.self | (refine At.setSelf (by (first | omega | (simp only [Heap.size_push, Heap.size_set]; omega)))) | apply At.push | (refine At.setNe ?_ (by (first | omega | (simp only [Heap.size_push, Heap.size_set]; omega)))) | (refine Ext.at' (by assumption) _ _ ?_))); done)); rfl; conv => whnf) | ((first | apply loadP_cells0 | apply loadP_cellsA | apply idxP_sl); (first | assumption | ((first | refine Cells.ext (by assumption) ?_ | refine SlP.ext (by assumption) ?_); (focus ((repeat' (first | assumption | exact Ext.refl _ | apply Ext.push | (refine Ext.set ?_ (by first | assumption | exact Nat.le_refl _ | exact Ext.size (by assumption) | omega | (simp only [Heap.size_push, Heap.size_set] at *; omega))))); done)))); (first | rfl | assumption); (try intro _ _ _); conv => whnf) | (apply loadP_cells; (first | assumption | ((first | refine Cells.ext (by assumption) ?_ | refine SlP.ext (by assumption) ?_); (focus ((repeat' (first | assumption | exact Ext.refl _ | apply Ext.push | (refine Ext.set ?_ (by first | assumption | exact Nat.le_refl _ | exact Ext.size (by assumption) | omega | (simp only [Heap.size_push, Heap.size_set] at *; omega))))); done)))); rfl; conv => whnf)))
  refine callP_fn (s91 hB (fun a1 a2 => ?_) (fun a1 => ?_))
  rotate_left
  · (conv => whnf)
    exact h2 _ (by (repeat' (first | assumption | exact Ext.refl _ | apply Ext.push | (refine Ext.set ?_ (by first | assumption | exact Nat.le_refl _ | exact Ext.size (by assumption) | omega | (simp only [Heap.size_push, Heap.size_set] at *; omega)))))) fun hk => a1 hk.skills
  (conv => whnf)
  (repeat (first | (refine numP.mk (by unfold inI; first | omega | (dsimp only at *; omega)) ?_; conv => whnf) | ((first | apply loadP_get | apply loadP_agg' | apply storeP_getR); (focus ((repeat' (first | assumption | exact At.self | (refine At.setSelf (by (first | omega | (simp only [Heap.size_push, Heap.size_set]; omega)))) | apply At.push | (refine At.setNe ?_ (by (first | omega | (simp only [Heap.size_push, Heap.size_set]; omega)))) | (refine Ext.at' (by assumption) _ _ ?_))); done)); rfl; conv => whnf) | ((first | apply loadP_cells0 | apply loadP_cellsA | apply idxP_sl); (first | assumption | ((first | refine Cells.ext (by assumption) ?_ | refine SlP.ext (by assumption) ?_); (focus ((repeat' (first | assumption | exact Ext.refl _ | apply Ext.push | (refine Ext.set ?_ (by first | assumption | exact Nat.le_refl _ | exact Ext.size (by assumption) | omega | (simp only [Heap.size_push, Heap.size_set] at *; omega))))); done)))); (first | rfl | assumption); (try intro _ _ _); conv => whnf) | (apply loadP_cells; (first | assumption | ((first | refine Cells.ext (by assumption) ?_ | refine SlP.ext (by assumption) ?_); (focus ((repeat' (first | assumption | exact Ext.refl _ | apply Ext.push | (refine Ext.set ?_ (by first | assumption | exact Nat.le_refl _ | exact Ext.size (by assumption) | omega | (simp only [Heap.size_push, Heap.size_set] at *; omega))))); done)))); rfl; conv => whnf)))
  refine callP_fn (s42 hB (fun a3 a4 => ?_) (fun a3 => ?_))
  rotate_left
  · (conv => whnf)
    exact h2 _ (by (repeat' (first | assumption | exact Ext.refl _ | apply Ext.push | (refine Ext.set ?_ (by first | assumption | exact Nat.le_refl _ | exact Ext.size (by assumption) | omega | (simp only [Heap.size_push, Heap.size_set] at *; omega)))))) fun hk => a3 ⟨hk.away.1, hk.away.2.1⟩
  (conv => whnf)
  (repeat (first | (refine numP.mk (by unfold inI; first | omega | (dsimp only at *; omega)) ?_; conv => whnf) | ((first | apply loadP_get | apply loadP_agg' | apply storeP_getR); (focus ((repeat' (first | assumption | exact At.self | (refine At.setSelf (by (first | omega | (simp only [Heap.size_push, Heap.size_set]; omega)))) | apply At.push | (refine At.setNe ?_ (by (first | omega | (simp only [Heap.size_push, Heap.size_set]; omega)))) | (refine Ext.at' (by assumption) _ _ ?_))); done)); rfl; conv => whnf) | ((first | apply loadP_cells0 | apply loadP_cellsA | apply idxP_sl); (first | assumption | ((first | refine Cells.ext (by assumption) ?_ | refine SlP.ext (by assumption) ?_); (focus ((repeat' (first | assumption | exact Ext.refl _ | apply Ext.push | (refine Ext.set ?_ (by first | assumption | exact Nat.le_refl _ | exact Ext.size (by assumption) | omega | (simp only [Heap.size_push, Heap.size_set] at *; omega))))); done)))); (first | rfl | assumption); (try intro _ _ _); conv => whnf) | (apply loadP_cells; (first | assumption | ((first | refine Cells.ext (by assumption) ?_ | refine SlP.ext (by assumption) ?_); (focus ((repeat' (first | assumption | exact Ext.refl _ | apply Ext.push | (refine Ext.set ?_ (by first | assumption | exact Nat.le_refl _ | exact Ext.size (by assumption) | omega | (simp only [Heap.size_push, Heap.size_set] at *; omega))))); done)))); rfl; conv => whnf)))
  refine ifP.mk (fun a5 => ?_) (fun a5 => ?_)
  · (conv => whnf)
    exact h2 _ (by (repeat' (first | assumption | exact Ext.refl _ | apply Ext.push | (refine Ext.set ?_ (by first | assumption | exact Nat.le_refl _ | exact Ext.size (by assumption) | omega | (simp only [Heap.size_push, Heap.size_set] at *; omega)))))) fun hk => by have := hk.away; omega
  (conv => whnf)
  (repeat (first | (refine numP.mk (by unfold inI; first | omega | (dsimp only at *; omega)) ?_; conv => whnf) | ((first | apply loadP_get | apply loadP_agg' | apply storeP_getR); (focus ((repeat' (first | assumption | exact At.self | (refine At.setSelf (by (first | omega | (simp only [Heap.size_push, Heap.size_set]; omega)))) | apply At.push | (refine At.setNe ?_ (by (first | omega | (simp only [Heap.size_push, Heap.size_set]; omega)))) | (refine Ext.at' (by assumption) _ _ ?_))); done)); rfl; conv => whnf) | ((first | apply loadP_cells0 | apply loadP_cellsA | apply idxP_sl); (first | assumption | ((first | refine Cells.ext (by assumption) ?_ | refine SlP.ext (by assumption) ?_); (focus ((repeat' (first | assumption | exact Ext.refl _ | apply Ext.push | (refine Ext.set ?_ (by first | assumption | exact Nat.le_refl _ | exact Ext.size (by assumption) | omega | (simp only [Heap.size_push, Heap.size_set] at *; omega))))); done)))); (first | rfl | assumption); (try intro _ _ _); conv => whnf) | (apply loadP_cells; (first | assumption | ((first | refine Cells.ext (by assumption) ?_ | refine SlP.ext (by assumption) ?_); (focus ((repeat' (first | assumption | exact Ext.refl _ | apply Ext.push | (refine Ext.set ?_ (by first | assumption | exact Nat.le_refl _ | exact Ext.size (by assumption) | omega | (simp only [Heap.size_push, Heap.size_set] at *; omega))))); done)))); rfl; conv => whnf)))
  refine ifP.mk (fun a6 => ?_) (fun a6 => ?_)
  · (conv => whnf)
    exact h2 _ (by (repeat' (first | assumption | exact Ext.refl _ | apply Ext.push | (refine Ext.set ?_ (by first | assumption | exact Nat.le_refl _ | exact Ext.size (by assumption) | omega | (simp only [Heap.size_push, Heap.size_set] at *; omega)))))) fun hk => by have := hk.len; omega
  (conv => whnf)
  (repeat (first | (refine numP.mk (by unfold inI; first | omega | (dsimp only at *; omega)) ?_; conv => whnf) | ((first | apply loadP_get | apply loadP_agg' | apply storeP_getR); (focus ((repeat' (first | assumption | exact At.self | (refine At.setSelf (by (first | omega | (simp only [Heap.size_push, Heap.size_set]; omega)))) | apply At.push | (refine At.setNe ?_ (by (first | omega | (simp only [Heap.size_push, Heap.size_set]; omega)))) | (refine Ext.at' (by assumption) _ _ ?_))); done)); rfl; conv => whnf) | ((first | apply loadP_cells0 | apply loadP_cellsA | apply idxP_sl); (first | assumption | ((first | refine Cells.ext (by assumption) ?_ | refine SlP.ext (by assumption) ?_); (focus ((repeat' (first | assumption | exact Ext.refl _ | apply Ext.push | (refine Ext.set ?_ (by first | assumption | exact Nat.le_refl _ | exact Ext.size (by assumption) | omega | (simp only [Heap.size_push, Heap.size_set] at *; omega))))); done)))); (first | rfl | assumption); (try intro _ _ _); conv => whnf) | (apply loadP_cells; (first | assumption | ((first | refine Cells.ext (by assumption) ?_ | refine SlP.ext (by assumption) ?_); (focus ((repeat' (first | assumption | exact Ext.refl _ | apply Ext.push | (refine Ext.set ?_ (by first | assumption | exact Nat.le_refl _ | exact Ext.size (by assumption) | omega | (simp only [Heap.size_push, Heap.size_set] at *; omega))))); done)))); rfl; conv => whnf)))
  refine callP_fn (s42 hB (fun a7 a8 => ?_) (fun a7 => ?_))
  rotate_left
  · (conv => whnf)
    exact h2 _ (by (repeat' (first | assumption | exact Ext.refl _ | apply Ext.push | (refine Ext.set ?_ (by first | assumption | exact Nat.le_refl _ | exact Ext.size (by assumption) | omega | (simp only [Heap.size_push, Heap.size_set] at *; omega)))))) fun hk => a7 hk.answer
  (conv => whnf)
  generalize hH : H.push _ = H1
  have hE : Ext H H1 := by rw [← hH]; exact (by (repeat' (first | assumption | exact Ext.refl _ | apply Ext.push | (refine Ext.set ?_ (by first | assumption | exact Nat.le_refl _ | exact Ext.size (by assumption) | omega | (simp only [Heap.size_push, Heap.size_set] at *; omega))))))
  have hA : At H1 H.size (.cells false 0 (encH h)) := by rw [← hH]; exact At.self
  have hlen := hl.len
  refine loop_pins (CallMono.acall hB) (σ := Nat × Int) (fun s => [(1, .pointer (some ⟨H.size, 0, none⟩)), (3, .int .i64 s.2), (4, .int .i64 (s.1 : Int))])
    (fun s H' => H' = H1 ∧ s.1 ≤ h.n ∧ -201 ≤ s.2 ∧ s.2 < 0 ∧ (LogOk (-201) h.log ↔ LogOk s.2 (h.log.drop s.1))) (fun s => h.n - s.1) (0, -201) ?_ ?_ ?_
  · exact ⟨rfl, rfl, rfl, trivial⟩
  · exact ⟨rfl, by simp, by simp, by simp, by simp⟩
  rintro ⟨i, last⟩ E H' ⟨rfl, k1, k2, k3, k4⟩
  (conv => whnf)
  (repeat (first | (refine numP.mk (by unfold inI; first | omega | (dsimp only at *; omega)) ?_; conv => whnf) | ((first | apply loadP_get | apply loadP_agg' | apply storeP_getR); (focus ((repeat' (first | assumption | exact At.self | (refine At.setSelf (by (first | omega | (simp only [Heap.size_push, Heap.size_set]; omega)))) | apply At.push | (refine At.setNe ?_ (by (first | omega | (simp only [Heap.size_push, Heap.size_set]; omega)))) | (refine Ext.at' (by assumption) _ _ ?_))); done)); rfl; conv => whnf) | ((first | apply loadP_cells0 | apply loadP_cellsA | apply idxP_sl); (first | assumption | ((first | refine Cells.ext (by assumption) ?_ | refine SlP.ext (by assumption) ?_); (focus ((repeat' (first | assumption | exact Ext.refl _ | apply Ext.push | (refine Ext.set ?_ (by first | assumption | exact Nat.le_refl _ | exact Ext.size (by assumption) | omega | (simp only [Heap.size_push, Heap.size_set] at *; omega))))); done)))); (first | rfl | assumption); (try intro _ _ _); conv => whnf) | (apply loadP_cells; (first | assumption | ((first | refine Cells.ext (by assumption) ?_ | refine SlP.ext (by assumption) ?_); (focus ((repeat' (first | assumption | exact Ext.refl _ | apply Ext.push | (refine Ext.set ?_ (by first | assumption | exact Nat.le_refl _ | exact Ext.size (by assumption) | omega | (simp only [Heap.size_push, Heap.size_set] at *; omega))))); done)))); rfl; conv => whnf)))
  refine ifP.mk (fun hlt => ?_) (fun hge => ?_)
  · (conv => whnf)
    (repeat (first | (refine numP.mk (by unfold inI; first | omega | (dsimp only at *; omega)) ?_; conv => whnf) | ((first | apply loadP_get | apply loadP_agg' | apply storeP_getR); (focus ((repeat' (first | assumption | exact At.self | (refine At.setSelf (by (first | omega | (simp only [Heap.size_push, Heap.size_set]; omega)))) | apply At.push | (refine At.setNe ?_ (by (first | omega | (simp only [Heap.size_push, Heap.size_set]; omega)))) | (refine Ext.at' (by assumption) _ _ ?_))); done)); rfl; conv => whnf) | ((first | apply loadP_cells0 | apply loadP_cellsA | apply idxP_sl); (first | assumption | ((first | refine Cells.ext (by assumption) ?_ | refine SlP.ext (by assumption) ?_); (focus ((repeat' (first | assumption | exact Ext.refl _ | apply Ext.push | (refine Ext.set ?_ (by first | assumption | exact Nat.le_refl _ | exact Ext.size (by assumption) | omega | (simp only [Heap.size_push, Heap.size_set] at *; omega))))); done)))); (first | rfl | assumption); (try intro _ _ _); conv => whnf) | (apply loadP_cells; (first | assumption | ((first | refine Cells.ext (by assumption) ?_ | refine SlP.ext (by assumption) ?_); (focus ((repeat' (first | assumption | exact Ext.refl _ | apply Ext.push | (refine Ext.set ?_ (by first | assumption | exact Nat.le_refl _ | exact Ext.size (by assumption) | omega | (simp only [Heap.size_push, Heap.size_set] at *; omega))))); done)))); rfl; conv => whnf)))
    obtain ⟨x, hx⟩ : ∃ x, h.log[i]? = some x := ⟨h.log[i], by simp⟩
    (repeat (first | (refine numP.mk (by unfold inI; first | omega | (dsimp only at *; omega)) ?_; conv => whnf) | ((first | apply loadP_get | apply loadP_agg' | apply storeP_getR); (focus ((repeat' (first | assumption | exact At.self | (refine At.setSelf (by (first | omega | (simp only [Heap.size_push, Heap.size_set]; omega)))) | apply At.push | (refine At.setNe ?_ (by (first | omega | (simp only [Heap.size_push, Heap.size_set]; omega)))) | (refine Ext.at' (by assumption) _ _ ?_))); done)); rfl; conv => whnf) | ((first | apply loadP_cells0 | apply loadP_cellsA | apply idxP_sl); (first | assumption | ((first | refine Cells.ext (by assumption) ?_ | refine SlP.ext (by assumption) ?_); (focus ((repeat' (first | assumption | exact Ext.refl _ | apply Ext.push | (refine Ext.set ?_ (by first | assumption | exact Nat.le_refl _ | exact Ext.size (by assumption) | omega | (simp only [Heap.size_push, Heap.size_set] at *; omega))))); done)))); (first | rfl | assumption); (try intro _ _ _); conv => whnf) | (apply loadP_cells; (first | assumption | ((first | refine Cells.ext (by assumption) ?_ | refine SlP.ext (by assumption) ?_); (focus ((repeat' (first | assumption | exact Ext.refl _ | apply Ext.push | (refine Ext.set ?_ (by first | assumption | exact Nat.le_refl _ | exact Ext.size (by assumption) | omega | (simp only [Heap.size_push, Heap.size_set] at *; omega))))); done)))); rfl; conv => whnf)))
    have hs : h.log.drop i = x :: h.log.drop (i + 1) := by
      have hi := (List.getElem?_eq_some_iff.1 hx)
      rw [List.drop_eq_getElem_cons hi.1, hi.2]
    rw [hs] at k4
    simp only [LogOk] at k4
    refine callP_fn (s42 hB (fun b1 b2 => ?_) (fun b1 => ?_))
    · (conv => whnf)
      (repeat (first | (refine numP.mk (by unfold inI; first | omega | (dsimp only at *; omega)) ?_; conv => whnf) | ((first | apply loadP_get | apply loadP_agg' | apply storeP_getR); (focus ((repeat' (first | assumption | exact At.self | (refine At.setSelf (by (first | omega | (simp only [Heap.size_push, Heap.size_set]; omega)))) | apply At.push | (refine At.setNe ?_ (by (first | omega | (simp only [Heap.size_push, Heap.size_set]; omega)))) | (refine Ext.at' (by assumption) _ _ ?_))); done)); rfl; conv => whnf) | ((first | apply loadP_cells0 | apply loadP_cellsA | apply idxP_sl); (first | assumption | ((first | refine Cells.ext (by assumption) ?_ | refine SlP.ext (by assumption) ?_); (focus ((repeat' (first | assumption | exact Ext.refl _ | apply Ext.push | (refine Ext.set ?_ (by first | assumption | exact Nat.le_refl _ | exact Ext.size (by assumption) | omega | (simp only [Heap.size_push, Heap.size_set] at *; omega))))); done)))); (first | rfl | assumption); (try intro _ _ _); conv => whnf) | (apply loadP_cells; (first | assumption | ((first | refine Cells.ext (by assumption) ?_ | refine SlP.ext (by assumption) ?_); (focus ((repeat' (first | assumption | exact Ext.refl _ | apply Ext.push | (refine Ext.set ?_ (by first | assumption | exact Nat.le_refl _ | exact Ext.size (by assumption) | omega | (simp only [Heap.size_push, Heap.size_set] at *; omega))))); done)))); rfl; conv => whnf)))
      refine ifP.mk (fun b3 => ?_) (fun b3 => ?_)
      · (conv => whnf)
        exact h2 _ hE fun hk => by have := k4.1 hk.log; omega
      · (conv => whnf)
        (repeat (first | (refine numP.mk (by unfold inI; first | omega | (dsimp only at *; omega)) ?_; conv => whnf) | ((first | apply loadP_get | apply loadP_agg' | apply storeP_getR); (focus ((repeat' (first | assumption | exact At.self | (refine At.setSelf (by (first | omega | (simp only [Heap.size_push, Heap.size_set]; omega)))) | apply At.push | (refine At.setNe ?_ (by (first | omega | (simp only [Heap.size_push, Heap.size_set]; omega)))) | (refine Ext.at' (by assumption) _ _ ?_))); done)); rfl; conv => whnf) | ((first | apply loadP_cells0 | apply loadP_cellsA | apply idxP_sl); (first | assumption | ((first | refine Cells.ext (by assumption) ?_ | refine SlP.ext (by assumption) ?_); (focus ((repeat' (first | assumption | exact Ext.refl _ | apply Ext.push | (refine Ext.set ?_ (by first | assumption | exact Nat.le_refl _ | exact Ext.size (by assumption) | omega | (simp only [Heap.size_push, Heap.size_set] at *; omega))))); done)))); (first | rfl | assumption); (try intro _ _ _); conv => whnf) | (apply loadP_cells; (first | assumption | ((first | refine Cells.ext (by assumption) ?_ | refine SlP.ext (by assumption) ?_); (focus ((repeat' (first | assumption | exact Ext.refl _ | apply Ext.push | (refine Ext.set ?_ (by first | assumption | exact Nat.le_refl _ | exact Ext.size (by assumption) | omega | (simp only [Heap.size_push, Heap.size_set] at *; omega))))); done)))); rfl; conv => whnf)))
        refine ⟨(i + 1, x.2), ⟨rfl, rfl, rfl, trivial⟩, ⟨rfl, ?_, ?_, ?_, ?_⟩, ?_⟩
        · show i + 1 ≤ h.n; omega
        · show -201 ≤ x.2; omega
        · show x.2 < 0; omega
        · rw [k4]
          exact ⟨fun hh => hh.2.2.2, fun hh => ⟨b1, b2, by omega, hh⟩⟩
        · show h.n - (i + 1) < h.n - i; omega
    · (conv => whnf)
      exact h2 _ hE fun hk => b1 ⟨(k4.1 hk.log).1, (k4.1 hk.log).2.1⟩
  · (conv => whnf)
    have hd : h.log.drop i = [] := List.drop_eq_nil_of_le (by have : ¬ ((i : Int) < (h.n : Int)) := hge; omega)
    rw [hd] at k4
    refine h1 _ hE ⟨⟨a1, a2⟩, ⟨a3, a4, by omega⟩, by omega, ⟨a7, a8⟩, k4.2 trivial⟩

/-- A station as it lies in cells. -/
structure Stn where
  p : Option Addr
  n : Nat
  c : Nat
  window : Int
  duty : Int
  hands : List Hd

def encSt (s : Stn) : List Value := [.slice s.p s.n s.c, .int .i64 s.window, .int .i64 s.duty]

/-- The station's memory. -/
structure StnAt (H : Heap) (s : Stn) : Prop where
  hands : SlP H 5 encH s.p s.n s.hands
  logs : ∀ h ∈ s.hands, SlP H 2 encS h.p h.n h.log
  forms : ∀ h ∈ s.hands, h.p = none ∨ ∃ b o, h.p = some ⟨b, o, none⟩

omit hB in
theorem StnAt.ext {H H' : Heap} {s : Stn} (h : StnAt H s) (he : Ext H H') : StnAt H' s := ⟨h.hands.ext he, fun x hx => (h.logs x hx).ext he, h.forms⟩

structure StnOk (s : Stn) : Prop where
  len : s.n ≤ 10
  window : 1 ≤ s.window ∧ s.window ≤ 100
  duty : 0 ≤ s.duty ∧ s.duty ≤ s.window
  hands : ∀ h ∈ s.hands, HdOk h

theorem s41 {s : Stn} {H : Heap} {R : Value → Heap → Prop} (hs : StnAt H s) (h1 : ∀ H', Ext H H' → StnOk s → R (.int .i64 0) H') (h2 : ∀ H', Ext H H' → ¬ StnOk s → R (.int .i64 70) H') :
    ACall AP B (.fn 41) [.agg ⟨encSt s⟩] H R := by
  have hl := hs.hands
  have hlen := hl.len
  (refine run_fn hB (a := a41) ap41 (by decide +kernel) rfl (by decide) ?_; conv => whnf)
  (repeat (first | (refine numP.mk (by unfold inI; first | omega | (dsimp only at *; omega)) ?_; conv => whnf) | ((first | apply loadP_get | apply loadP_agg' | apply storeP_getR); (focus ((repeat' (first | assumption | exact At.self | (refine At.setSelf (by (first | omega | (simp only [Heap.size_push, Heap.size_set]; omega)))) | apply At.push | (refine At.setNe ?_ (by (first | omega | (simp only [Heap.size_push, Heap.size_set]; omega)))) | (refine Ext.at' (by assumption) _ _ ?_))); done)); rfl; conv => whnf) | ((first | apply loadP_cells0 | apply loadP_cellsA | apply idxP_sl); (first | assumption | ((first | refine Cells.ext (by assumption) ?_ | refine SlP.ext (by assumption) ?_); (focus ((repeat' (first | assumption | exact Ext.refl _ | apply Ext.push | (refine Ext.set ?_ (by first | assumption | exact Nat.le_refl _ | exact Ext.size (by assumption) | omega | (simp only [Heap.size_push, Heap.size_set] at *; omega))))); done)))); (first | rfl | assumption); (try intro _ _ _); conv => whnf) | (apply loadP_cells; (first | assumption | ((first | refine Cells.ext (by assumption) ?_ | refine SlP.ext (by assumption) ?_); (focus ((repeat' (first | assumption | exact Ext.refl _ | apply Ext.push | (refine Ext.set ?_ (by first | assumption | exact Nat.le_refl _ | exact Ext.size (by assumption) | omega | (simp only [Heap.size_push, Heap.size_set] at *; omega))))); done)))); rfl; conv => whnf)))
  refine ifP.mk (fun a1 => ?_) (fun a1 => ?_)
  · (conv => whnf)
    exact h2 _ (by (repeat' (first | assumption | exact Ext.refl _ | apply Ext.push | (refine Ext.set ?_ (by first | assumption | exact Nat.le_refl _ | exact Ext.size (by assumption) | omega | (simp only [Heap.size_push, Heap.size_set] at *; omega)))))) fun hk => by have := hk.len; omega
  (conv => whnf)
  (repeat (first | (refine numP.mk (by unfold inI; first | omega | (dsimp only at *; omega)) ?_; conv => whnf) | ((first | apply loadP_get | apply loadP_agg' | apply storeP_getR); (focus ((repeat' (first | assumption | exact At.self | (refine At.setSelf (by (first | omega | (simp only [Heap.size_push, Heap.size_set]; omega)))) | apply At.push | (refine At.setNe ?_ (by (first | omega | (simp only [Heap.size_push, Heap.size_set]; omega)))) | (refine Ext.at' (by assumption) _ _ ?_))); done)); rfl; conv => whnf) | ((first | apply loadP_cells0 | apply loadP_cellsA | apply idxP_sl); (first | assumption | ((first | refine Cells.ext (by assumption) ?_ | refine SlP.ext (by assumption) ?_); (focus ((repeat' (first | assumption | exact Ext.refl _ | apply Ext.push | (refine Ext.set ?_ (by first | assumption | exact Nat.le_refl _ | exact Ext.size (by assumption) | omega | (simp only [Heap.size_push, Heap.size_set] at *; omega))))); done)))); (first | rfl | assumption); (try intro _ _ _); conv => whnf) | (apply loadP_cells; (first | assumption | ((first | refine Cells.ext (by assumption) ?_ | refine SlP.ext (by assumption) ?_); (focus ((repeat' (first | assumption | exact Ext.refl _ | apply Ext.push | (refine Ext.set ?_ (by first | assumption | exact Nat.le_refl _ | exact Ext.size (by assumption) | omega | (simp only [Heap.size_push, Heap.size_set] at *; omega))))); done)))); rfl; conv => whnf)))
  refine callP_fn (s42 hB (fun a2 a3 => ?_) (fun a2 => ?_))
  rotate_left
  · (conv => whnf)
    exact h2 _ (by (repeat' (first | assumption | exact Ext.refl _ | apply Ext.push | (refine Ext.set ?_ (by first | assumption | exact Nat.le_refl _ | exact Ext.size (by assumption) | omega | (simp only [Heap.size_push, Heap.size_set] at *; omega)))))) fun hk => a2 hk.window
  (conv => whnf)
  (repeat (first | (refine numP.mk (by unfold inI; first | omega | (dsimp only at *; omega)) ?_; conv => whnf) | ((first | apply loadP_get | apply loadP_agg' | apply storeP_getR); (focus ((repeat' (first | assumption | exact At.self | (refine At.setSelf (by (first | omega | (simp only [Heap.size_push, Heap.size_set]; omega)))) | apply At.push | (refine At.setNe ?_ (by (first | omega | (simp only [Heap.size_push, Heap.size_set]; omega)))) | (refine Ext.at' (by assumption) _ _ ?_))); done)); rfl; conv => whnf) | ((first | apply loadP_cells0 | apply loadP_cellsA | apply idxP_sl); (first | assumption | ((first | refine Cells.ext (by assumption) ?_ | refine SlP.ext (by assumption) ?_); (focus ((repeat' (first | assumption | exact Ext.refl _ | apply Ext.push | (refine Ext.set ?_ (by first | assumption | exact Nat.le_refl _ | exact Ext.size (by assumption) | omega | (simp only [Heap.size_push, Heap.size_set] at *; omega))))); done)))); (first | rfl | assumption); (try intro _ _ _); conv => whnf) | (apply loadP_cells; (first | assumption | ((first | refine Cells.ext (by assumption) ?_ | refine SlP.ext (by assumption) ?_); (focus ((repeat' (first | assumption | exact Ext.refl _ | apply Ext.push | (refine Ext.set ?_ (by first | assumption | exact Nat.le_refl _ | exact Ext.size (by assumption) | omega | (simp only [Heap.size_push, Heap.size_set] at *; omega))))); done)))); rfl; conv => whnf)))
  refine callP_fn (s42 hB (fun a4 a5 => ?_) (fun a4 => ?_))
  rotate_left
  · (conv => whnf)
    exact h2 _ (by (repeat' (first | assumption | exact Ext.refl _ | apply Ext.push | (refine Ext.set ?_ (by first | assumption | exact Nat.le_refl _ | exact Ext.size (by assumption) | omega | (simp only [Heap.size_push, Heap.size_set] at *; omega)))))) fun hk => a4 hk.duty
  (conv => whnf)
  generalize hH : H.push _ = H1
  have hE : Ext H H1 := by rw [← hH]; exact (by (repeat' (first | assumption | exact Ext.refl _ | apply Ext.push | (refine Ext.set ?_ (by first | assumption | exact Nat.le_refl _ | exact Ext.size (by assumption) | omega | (simp only [Heap.size_push, Heap.size_set] at *; omega))))))
  have hA : At H1 H.size (.cells false 0 (encSt s)) := by rw [← hH]; exact At.self
  refine loop_pins (CallMono.acall hB) (σ := Nat) (fun i => [(1, .pointer (some ⟨H.size, 0, none⟩)), (3, .int .i64 (i : Int))])
    (fun i H' => Ext H1 H' ∧ i ≤ s.n ∧ ∀ k h, k < i → s.hands[k]? = some h → HdOk h) (fun i => s.n - i) 0 ?_ ?_ ?_
  · exact ⟨rfl, rfl, trivial⟩
  · exact ⟨Ext.refl _, by simp, by simp⟩
  rintro i E H' ⟨hE1, k1, k2⟩
  have hA' := hE1.at' _ _ hA
  have hE2 := hE.trans hE1
  (conv => whnf)
  (repeat (first | (refine numP.mk (by unfold inI; first | omega | (dsimp only at *; omega)) ?_; conv => whnf) | ((first | apply loadP_get | apply loadP_agg' | apply storeP_getR); (focus ((repeat' (first | assumption | exact At.self | (refine At.setSelf (by (first | omega | (simp only [Heap.size_push, Heap.size_set]; omega)))) | apply At.push | (refine At.setNe ?_ (by (first | omega | (simp only [Heap.size_push, Heap.size_set]; omega)))) | (refine Ext.at' (by assumption) _ _ ?_))); done)); rfl; conv => whnf) | ((first | apply loadP_cells0 | apply loadP_cellsA | apply idxP_sl); (first | assumption | ((first | refine Cells.ext (by assumption) ?_ | refine SlP.ext (by assumption) ?_); (focus ((repeat' (first | assumption | exact Ext.refl _ | apply Ext.push | (refine Ext.set ?_ (by first | assumption | exact Nat.le_refl _ | exact Ext.size (by assumption) | omega | (simp only [Heap.size_push, Heap.size_set] at *; omega))))); done)))); (first | rfl | assumption); (try intro _ _ _); conv => whnf) | (apply loadP_cells; (first | assumption | ((first | refine Cells.ext (by assumption) ?_ | refine SlP.ext (by assumption) ?_); (focus ((repeat' (first | assumption | exact Ext.refl _ | apply Ext.push | (refine Ext.set ?_ (by first | assumption | exact Nat.le_refl _ | exact Ext.size (by assumption) | omega | (simp only [Heap.size_push, Heap.size_set] at *; omega))))); done)))); rfl; conv => whnf)))
  refine ifP.mk (fun hlt => ?_) (fun hge => ?_)
  · (conv => whnf)
    obtain ⟨x, hx⟩ : ∃ x, s.hands[i]? = some x := ⟨s.hands[i], by simp⟩
    have hl' := hl.ext hE2
    have hm := List.mem_of_getElem? hx
    (repeat (first | (refine numP.mk (by unfold inI; first | omega | (dsimp only at *; omega)) ?_; conv => whnf) | ((first | apply loadP_get | apply loadP_agg' | apply storeP_getR); (focus ((repeat' (first | assumption | exact At.self | (refine At.setSelf (by (first | omega | (simp only [Heap.size_push, Heap.size_set]; omega)))) | apply At.push | (refine At.setNe ?_ (by (first | omega | (simp only [Heap.size_push, Heap.size_set]; omega)))) | (refine Ext.at' (by assumption) _ _ ?_))); done)); rfl; conv => whnf) | ((first | apply loadP_cells0 | apply loadP_cellsA | apply idxP_sl); (first | assumption | ((first | refine Cells.ext (by assumption) ?_ | refine SlP.ext (by assumption) ?_); (focus ((repeat' (first | assumption | exact Ext.refl _ | apply Ext.push | (refine Ext.set ?_ (by first | assumption | exact Nat.le_refl _ | exact Ext.size (by assumption) | omega | (simp only [Heap.size_push, Heap.size_set] at *; omega))))); done)))); (first | rfl | assumption); (try intro _ _ _); conv => whnf) | (apply loadP_cells; (first | assumption | ((first | refine Cells.ext (by assumption) ?_ | refine SlP.ext (by assumption) ?_); (focus ((repeat' (first | assumption | exact Ext.refl _ | apply Ext.push | (refine Ext.set ?_ (by first | assumption | exact Nat.le_refl _ | exact Ext.size (by assumption) | omega | (simp only [Heap.size_push, Heap.size_set] at *; omega))))); done)))); rfl; conv => whnf)))
    refine callP_fn (s90 hB ((hs.logs x hm).ext hE2) (fun H3 e3 ok => ?_) (fun H3 e3 ok => ?_))
    · (conv => whnf)
      (repeat (first | (refine numP.mk (by unfold inI; first | omega | (dsimp only at *; omega)) ?_; conv => whnf) | ((first | apply loadP_get | apply loadP_agg' | apply storeP_getR); (focus ((repeat' (first | assumption | exact At.self | (refine At.setSelf (by (first | omega | (simp only [Heap.size_push, Heap.size_set]; omega)))) | apply At.push | (refine At.setNe ?_ (by (first | omega | (simp only [Heap.size_push, Heap.size_set]; omega)))) | (refine Ext.at' (by assumption) _ _ ?_))); done)); rfl; conv => whnf) | ((first | apply loadP_cells0 | apply loadP_cellsA | apply idxP_sl); (first | assumption | ((first | refine Cells.ext (by assumption) ?_ | refine SlP.ext (by assumption) ?_); (focus ((repeat' (first | assumption | exact Ext.refl _ | apply Ext.push | (refine Ext.set ?_ (by first | assumption | exact Nat.le_refl _ | exact Ext.size (by assumption) | omega | (simp only [Heap.size_push, Heap.size_set] at *; omega))))); done)))); (first | rfl | assumption); (try intro _ _ _); conv => whnf) | (apply loadP_cells; (first | assumption | ((first | refine Cells.ext (by assumption) ?_ | refine SlP.ext (by assumption) ?_); (focus ((repeat' (first | assumption | exact Ext.refl _ | apply Ext.push | (refine Ext.set ?_ (by first | assumption | exact Nat.le_refl _ | exact Ext.size (by assumption) | omega | (simp only [Heap.size_push, Heap.size_set] at *; omega))))); done)))); rfl; conv => whnf)))
      refine ⟨i + 1, ⟨rfl, rfl, trivial⟩, ⟨hE1.trans e3, by omega, ?_⟩, by omega⟩
      intro k h hk hh
      by_cases hki : k = i
      · subst hki; rw [hx] at hh; cases hh; exact ok
      · exact k2 k h (by omega) hh
    · (conv => whnf)
      exact h2 _ (hE2.trans e3) fun hk => ok (hk.hands x hm)
  · (conv => whnf)
    refine h1 _ hE2 ⟨by omega, ⟨a2, a3⟩, ⟨a4, a5⟩, fun h hh => ?_⟩
    obtain ⟨k, hk1, hk2⟩ := List.getElem_of_mem hh
    exact k2 k h (by omega) (by rw [List.getElem?_eq_getElem hk1, hk2])

/-- Seats. -/
structure SeatsOk (n : Nat) (l : List Int) : Prop where
  len : n ≤ 5
  all : ∀ x ∈ l, 0 ≤ x ∧ x ≤ 255

theorem s43 {p : Option Addr} {n c : Nat} {l : List Int} {H : Heap} {R : Value → Heap → Prop} (hl : SlP H 1 encI p n l) (h1 : SeatsOk n l → R (.int .i64 0) H) (h2 : ¬ SeatsOk n l → ∀ e, e ≠ 0 → R (.int .i64 e) H) :
    ACall AP B (.fn 43) [.slice p n c] H R := by
  have hlen := hl.len
  (refine run_fn hB (a := a43) ap43 (by decide +kernel) rfl (by decide) ?_; conv => whnf)
  refine ifP.mk (fun a1 => ?_) (fun a1 => ?_)
  · (conv => whnf)
    exact h2 (fun hk => by have := hk.len; omega) _ (by decide)
  (conv => whnf)
  refine loop_pins (CallMono.acall hB) (σ := Nat) (fun i => [(0, .slice p n c), (3, .int .i64 (i : Int))])
    (fun i H' => H' = H ∧ i ≤ n ∧ ∀ k h, k < i → l[k]? = some h → 0 ≤ h ∧ h ≤ 255) (fun i => n - i) 0 ?_ ?_ ?_
  · exact ⟨rfl, rfl, trivial⟩
  · exact ⟨rfl, by simp, by simp⟩
  rintro i E H ⟨rfl, k1, k2⟩
  (conv => whnf)
  refine ifP.mk (fun hlt => ?_) (fun hge => ?_)
  · (conv => whnf)
    obtain ⟨x, hx⟩ : ∃ x, l[i]? = some x := ⟨l[i], by simp⟩
    have hm := List.mem_of_getElem? hx
    (repeat (first | (refine numP.mk (by unfold inI; first | omega | (dsimp only at *; omega)) ?_; conv => whnf) | ((first | apply loadP_get | apply loadP_agg' | apply storeP_getR); (focus ((repeat' (first | assumption | exact At.self | (refine At.setSelf (by (first | omega | (simp only [Heap.size_push, Heap.size_set]; omega)))) | apply At.push | (refine At.setNe ?_ (by (first | omega | (simp only [Heap.size_push, Heap.size_set]; omega)))) | (refine Ext.at' (by assumption) _ _ ?_))); done)); rfl; conv => whnf) | ((first | apply loadP_cells0 | apply loadP_cellsA | apply idxP_sl); (first | assumption | ((first | refine Cells.ext (by assumption) ?_ | refine SlP.ext (by assumption) ?_); (focus ((repeat' (first | assumption | exact Ext.refl _ | apply Ext.push | (refine Ext.set ?_ (by first | assumption | exact Nat.le_refl _ | exact Ext.size (by assumption) | omega | (simp only [Heap.size_push, Heap.size_set] at *; omega))))); done)))); (first | rfl | assumption); (try intro _ _ _); conv => whnf) | (apply loadP_cells; (first | assumption | ((first | refine Cells.ext (by assumption) ?_ | refine SlP.ext (by assumption) ?_); (focus ((repeat' (first | assumption | exact Ext.refl _ | apply Ext.push | (refine Ext.set ?_ (by first | assumption | exact Nat.le_refl _ | exact Ext.size (by assumption) | omega | (simp only [Heap.size_push, Heap.size_set] at *; omega))))); done)))); rfl; conv => whnf)))
    refine callP_fn (s91 hB (fun b1 b2 => ?_) (fun b1 => ?_))
    · (conv => whnf)
      (repeat (first | (refine numP.mk (by unfold inI; first | omega | (dsimp only at *; omega)) ?_; conv => whnf) | ((first | apply loadP_get | apply loadP_agg' | apply storeP_getR); (focus ((repeat' (first | assumption | exact At.self | (refine At.setSelf (by (first | omega | (simp only [Heap.size_push, Heap.size_set]; omega)))) | apply At.push | (refine At.setNe ?_ (by (first | omega | (simp only [Heap.size_push, Heap.size_set]; omega)))) | (refine Ext.at' (by assumption) _ _ ?_))); done)); rfl; conv => whnf) | ((first | apply loadP_cells0 | apply loadP_cellsA | apply idxP_sl); (first | assumption | ((first | refine Cells.ext (by assumption) ?_ | refine SlP.ext (by assumption) ?_); (focus ((repeat' (first | assumption | exact Ext.refl _ | apply Ext.push | (refine Ext.set ?_ (by first | assumption | exact Nat.le_refl _ | exact Ext.size (by assumption) | omega | (simp only [Heap.size_push, Heap.size_set] at *; omega))))); done)))); (first | rfl | assumption); (try intro _ _ _); conv => whnf) | (apply loadP_cells; (first | assumption | ((first | refine Cells.ext (by assumption) ?_ | refine SlP.ext (by assumption) ?_); (focus ((repeat' (first | assumption | exact Ext.refl _ | apply Ext.push | (refine Ext.set ?_ (by first | assumption | exact Nat.le_refl _ | exact Ext.size (by assumption) | omega | (simp only [Heap.size_push, Heap.size_set] at *; omega))))); done)))); rfl; conv => whnf)))
      refine ⟨i + 1, ⟨rfl, rfl, trivial⟩, ⟨rfl, by omega, ?_⟩, by omega⟩
      intro k h hk hh
      by_cases hki : k = i
      · subst hki; rw [hx] at hh; cases hh; exact ⟨b1, b2⟩
      · exact k2 k h (by omega) hh
    · (conv => whnf)
      exact h2 (fun hk => b1 (hk.all x hm)) _ (by decide)
  · (conv => whnf)
    refine h1 ⟨by omega, fun h hh => ?_⟩
    obtain ⟨k, hk1, hk2⟩ := List.getElem_of_mem hh
    exact k2 k h (by omega) (by rw [List.getElem?_eq_getElem hk1, hk2])

/-- What CheckSeats asks. -/
structure CallOk (s : Stn) (call len : Int) (n : Nat) (l : List Int) : Prop where
  stn : StnOk s
  call : 0 ≤ call ∧ call ≤ 100
  len : 1 ≤ len ∧ len ≤ 40
  seats : SeatsOk n l

theorem s10 {s : Stn} {call len : Int} {p : Option Addr} {n c : Nat} {l : List Int} {H : Heap} {R : Value → Heap → Prop} (hs : StnAt H s) (hl : SlP H 1 encI p n l)
    (h1 : ∀ H', Ext H H' → CallOk s call len n l → R (.int .i64 0) H') (h2 : ∀ H' e, Ext H H' → e ≠ 0 → R (.int .i64 e) H') :
    ACall AP B (.fn 10) [.agg ⟨encSt s⟩, .int .i64 call, .slice p n c, .int .i64 len] H R := by
  (refine run_fn hB (a := a10) ap10 (by decide +kernel) rfl (by decide) ?_; conv => whnf)
  (repeat (first | (refine numP.mk (by unfold inI; first | omega | (dsimp only at *; omega)) ?_; conv => whnf) | ((first | apply loadP_get | apply loadP_agg' | apply storeP_getR); (focus ((repeat' (first | assumption | exact At.self | (refine At.setSelf (by (first | omega | (simp only [Heap.size_push, Heap.size_set]; omega)))) | apply At.push | (refine At.setNe ?_ (by (first | omega | (simp only [Heap.size_push, Heap.size_set]; omega)))) | (refine Ext.at' (by assumption) _ _ ?_))); done)); rfl; conv => whnf) | ((first | apply loadP_cells0 | apply loadP_cellsA | apply idxP_sl); (first | assumption | ((first | refine Cells.ext (by assumption) ?_ | refine SlP.ext (by assumption) ?_); (focus ((repeat' (first | assumption | exact Ext.refl _ | apply Ext.push | (refine Ext.set ?_ (by first | assumption | exact Nat.le_refl _ | exact Ext.size (by assumption) | omega | (simp only [Heap.size_push, Heap.size_set] at *; omega))))); done)))); (first | rfl | assumption); (try intro _ _ _); conv => whnf) | (apply loadP_cells; (first | assumption | ((first | refine Cells.ext (by assumption) ?_ | refine SlP.ext (by assumption) ?_); (focus ((repeat' (first | assumption | exact Ext.refl _ | apply Ext.push | (refine Ext.set ?_ (by first | assumption | exact Nat.le_refl _ | exact Ext.size (by assumption) | omega | (simp only [Heap.size_push, Heap.size_set] at *; omega))))); done)))); rfl; conv => whnf)))
  refine callP_fn ?_
  refine s41 (s := s) hB (hs.ext (Ext.refl _).push) (fun H' e ok => ?_) (fun H' e ok => ?_)
  rotate_left
  · (conv => whnf)
    (repeat (first | (refine numP.mk (by unfold inI; first | omega | (dsimp only at *; omega)) ?_; conv => whnf) | ((first | apply loadP_get | apply loadP_agg' | apply storeP_getR); (focus ((repeat' (first | assumption | exact At.self | (refine At.setSelf (by (first | omega | (simp only [Heap.size_push, Heap.size_set]; omega)))) | apply At.push | (refine At.setNe ?_ (by (first | omega | (simp only [Heap.size_push, Heap.size_set]; omega)))) | (refine Ext.at' (by assumption) _ _ ?_))); done)); rfl; conv => whnf) | ((first | apply loadP_cells0 | apply loadP_cellsA | apply idxP_sl); (first | assumption | ((first | refine Cells.ext (by assumption) ?_ | refine SlP.ext (by assumption) ?_); (focus ((repeat' (first | assumption | exact Ext.refl _ | apply Ext.push | (refine Ext.set ?_ (by first | assumption | exact Nat.le_refl _ | exact Ext.size (by assumption) | omega | (simp only [Heap.size_push, Heap.size_set] at *; omega))))); done)))); (first | rfl | assumption); (try intro _ _ _); conv => whnf) | (apply loadP_cells; (first | assumption | ((first | refine Cells.ext (by assumption) ?_ | refine SlP.ext (by assumption) ?_); (focus ((repeat' (first | assumption | exact Ext.refl _ | apply Ext.push | (refine Ext.set ?_ (by first | assumption | exact Nat.le_refl _ | exact Ext.size (by assumption) | omega | (simp only [Heap.size_push, Heap.size_set] at *; omega))))); done)))); rfl; conv => whnf)))
    refine ifP.mk (fun a1 => ?_) (fun a1 => ?_)
    · (conv => whnf)
      exact h2 _ _ ((Ext.refl _).push.trans e) (by decide)
    · exact absurd (by decide) a1
  (conv => whnf)
  (repeat (first | (refine numP.mk (by unfold inI; first | omega | (dsimp only at *; omega)) ?_; conv => whnf) | ((first | apply loadP_get | apply loadP_agg' | apply storeP_getR); (focus ((repeat' (first | assumption | exact At.self | (refine At.setSelf (by (first | omega | (simp only [Heap.size_push, Heap.size_set]; omega)))) | apply At.push | (refine At.setNe ?_ (by (first | omega | (simp only [Heap.size_push, Heap.size_set]; omega)))) | (refine Ext.at' (by assumption) _ _ ?_))); done)); rfl; conv => whnf) | ((first | apply loadP_cells0 | apply loadP_cellsA | apply idxP_sl); (first | assumption | ((first | refine Cells.ext (by assumption) ?_ | refine SlP.ext (by assumption) ?_); (focus ((repeat' (first | assumption | exact Ext.refl _ | apply Ext.push | (refine Ext.set ?_ (by first | assumption | exact Nat.le_refl _ | exact Ext.size (by assumption) | omega | (simp only [Heap.size_push, Heap.size_set] at *; omega))))); done)))); (first | rfl | assumption); (try intro _ _ _); conv => whnf) | (apply loadP_cells; (first | assumption | ((first | refine Cells.ext (by assumption) ?_ | refine SlP.ext (by assumption) ?_); (focus ((repeat' (first | assumption | exact Ext.refl _ | apply Ext.push | (refine Ext.set ?_ (by first | assumption | exact Nat.le_refl _ | exact Ext.size (by assumption) | omega | (simp only [Heap.size_push, Heap.size_set] at *; omega))))); done)))); rfl; conv => whnf)))
  refine ifP.mk (fun a1 => ?_) (fun _ => ?_)
  · exact absurd rfl a1
  (conv => whnf)
  refine callP_fn (s42 hB (fun a2 a3 => ?_) (fun a2 => ?_))
  rotate_left
  · (conv => whnf)
    exact h2 _ _ ((Ext.refl _).push.trans e) (by decide)
  (conv => whnf)
  refine callP_fn (s42 hB (fun a4 a5 => ?_) (fun a4 => ?_))
  rotate_left
  · (conv => whnf)
    exact h2 _ _ ((Ext.refl _).push.trans e) (by decide)
  (conv => whnf)
  refine callP_fn (s43 hB (hl.ext ((Ext.refl _).push.trans e)) (fun a6 => ?_) (fun a6 er a7 => ?_))
  · (conv => whnf)
    exact h1 _ ((Ext.refl _).push.trans e) ⟨ok, ⟨a2, a3⟩, ⟨a4, a5⟩, a6⟩
  · (conv => whnf)
    exact h2 _ _ ((Ext.refl _).push.trans e) a7

end LV
