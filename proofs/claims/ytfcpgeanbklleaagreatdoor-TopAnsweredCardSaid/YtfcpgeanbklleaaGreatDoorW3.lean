/- Part of the proof of this claim: text W3. -/
import Derived.Test.YtfcpgeanbklleaaGreatDoorW2
import Derived.Test.YtfcpgeanbklleaaGreatDoorStops
set_option linter.unusedSectionVars false
set_option linter.unusedSimpArgs false
set_option linter.unusedVariables false
namespace LV
open Go Ab
set_option maxRecDepth 100000

structure Pg where
  tick : Int
  hand : Int
  kind : Int

def encP (x : Pg) : List Value := [.int .i64 x.tick, .int .i64 x.hand, .int .i64 x.kind]

structure PgOk (hands : Int) (x : Pg) : Prop where
  tick : -200 ≤ x.tick ∧ x.tick ≤ 400
  hand : 0 ≤ x.hand ∧ x.hand ≤ hands - 1
  kind : 1 ≤ x.kind ∧ x.kind ≤ 3

structure PagesOk (hands : Int) (n : Nat) (l : List Pg) (at' : Int) : Prop where
  many : 1 ≤ hands ∧ hands ≤ 10
  tick : -200 ≤ at' ∧ at' ≤ 400
  len : n ≤ 200
  all : ∀ (i : Nat) x, l[i]? = some x → PgOk hands x
  sorted : ∀ (i : Nat) x y, l[i]? = some x → l[i + 1]? = some y → x.tick ≤ y.tick

theorem idxP_slj {α : Type} {H : Heap} {esz n c : Nat} {enc : α → List Value} {p : Option Addr} {l : List α} {i : Nat} {x : α} {j : Int} {K : Value → Prop} (hj : j = (i : Int)) (h : SlP H esz enc p n l) (hx : l[i]? = some x) (k : ∀ b o, Cells H b (o + i * esz) (enc x) → K (.pointer (some ⟨b, o + i * esz, none⟩))) : idxP none esz (.slice p n c) (.int .i64 j) K := by
  subst hj
  exact idxP_sl h hx k

variable {B : CallPred} (hB : BaseMono B)
include hB

theorem s11 {hands tick : Int} {p : Option Addr} {n c : Nat} {l : List Pg} {H : Heap} {R : Value → Heap → Prop} (hl : SlP H 3 encP p n l)
    (h1 : PagesOk hands n l tick → R (.int .i64 0) H) (h2 : ∀ e, e ≠ 0 → R (.int .i64 e) H) :
    ACall AP B (.fn 11) [.int .i64 hands, .slice p n c, .int .i64 tick] H R := by
  have hlen := hl.len
  (refine run_fn hB (a := a11) ap11 (by decide +kernel) rfl (by decide) ?_; conv => whnf)
  refine callP_fn (s42 hB (fun a1 a2 => ?_) (fun a1 => ?_))
  rotate_left
  · (conv => whnf)
    exact h2 _ (by decide)
  (conv => whnf)
  refine callP_fn (s44 hB (fun a3 a4 => ?_) (fun a3 => ?_))
  rotate_left
  · (conv => whnf)
    exact h2 _ (by decide)
  (conv => whnf)
  refine ifP.mk (fun a5 => ?_) (fun a5 => ?_)
  · (conv => whnf)
    exact h2 _ (by decide)
  (conv => whnf)
  refine loop_pins (CallMono.acall hB) (σ := Nat) (fun i => [(0, .int .i64 hands), (1, .slice p n c), (7, .int .i64 (i : Int))])
    (fun i H' => H' = H ∧ i ≤ n ∧ (∀ k x, k < i → l[k]? = some x → PgOk hands x) ∧ (∀ k x y, k + 1 < i → l[k]? = some x → l[k + 1]? = some y → x.tick ≤ y.tick)) (fun i => n - i) 0 ?_ ?_ ?_
  · exact ⟨rfl, rfl, rfl, trivial⟩
  · exact ⟨rfl, by simp, by simp, by simp⟩
  rintro i E H ⟨rfl, k1, k2, k3⟩
  (conv => whnf)
  refine ifP.mk (fun hlt => ?_) (fun hge => ?_)
  · (conv => whnf)
    obtain ⟨x, hx⟩ : ∃ x, l[i]? = some x := ⟨l[i], by simp⟩
    (repeat (first | (refine numP.mk (by unfold inI; first | omega | (dsimp only at *; omega)) ?_; conv => whnf) | ((first | apply loadP_get | apply loadP_agg' | apply storeP_getR); (focus ((repeat' (first | assumption | exact At.self | (refine At.setSelf (by (first | omega | (simp only [Heap.size_push, Heap.size_set]; omega)))) | apply At.push | (refine At.setNe ?_ (by (first | omega | (simp only [Heap.size_push, Heap.size_set]; omega)))) | (refine Ext.at' (by assumption) _ _ ?_))); done)); rfl; conv => whnf) | ((first | apply loadP_cells0 | apply loadP_cellsA | apply idxP_sl); (first | assumption | ((first | refine Cells.ext (by assumption) ?_ | refine SlP.ext (by assumption) ?_); (focus ((repeat' (first | assumption | exact Ext.refl _ | apply Ext.push | (refine Ext.set ?_ (by first | assumption | exact Nat.le_refl _ | exact Ext.size (by assumption) | omega | (simp only [Heap.size_push, Heap.size_set] at *; omega))))); done)))); (first | rfl | assumption); (try intro _ _ _); conv => whnf) | (apply loadP_cells; (first | assumption | ((first | refine Cells.ext (by assumption) ?_ | refine SlP.ext (by assumption) ?_); (focus ((repeat' (first | assumption | exact Ext.refl _ | apply Ext.push | (refine Ext.set ?_ (by first | assumption | exact Nat.le_refl _ | exact Ext.size (by assumption) | omega | (simp only [Heap.size_push, Heap.size_set] at *; omega))))); done)))); rfl; conv => whnf)))
    refine callP_fn (s44 hB (fun b1 b2 => ?_) (fun b1 => ?_))
    rotate_left
    · (conv => whnf)
      exact h2 _ (by decide)
    (conv => whnf)
    (repeat (first | (refine numP.mk (by unfold inI; first | omega | (dsimp only at *; omega)) ?_; conv => whnf) | ((first | apply loadP_get | apply loadP_agg' | apply storeP_getR); (focus ((repeat' (first | assumption | exact At.self | (refine At.setSelf (by (first | omega | (simp only [Heap.size_push, Heap.size_set]; omega)))) | apply At.push | (refine At.setNe ?_ (by (first | omega | (simp only [Heap.size_push, Heap.size_set]; omega)))) | (refine Ext.at' (by assumption) _ _ ?_))); done)); rfl; conv => whnf) | ((first | apply loadP_cells0 | apply loadP_cellsA | apply idxP_sl); (first | assumption | ((first | refine Cells.ext (by assumption) ?_ | refine SlP.ext (by assumption) ?_); (focus ((repeat' (first | assumption | exact Ext.refl _ | apply Ext.push | (refine Ext.set ?_ (by first | assumption | exact Nat.le_refl _ | exact Ext.size (by assumption) | omega | (simp only [Heap.size_push, Heap.size_set] at *; omega))))); done)))); (first | rfl | assumption); (try intro _ _ _); conv => whnf) | (apply loadP_cells; (first | assumption | ((first | refine Cells.ext (by assumption) ?_ | refine SlP.ext (by assumption) ?_); (focus ((repeat' (first | assumption | exact Ext.refl _ | apply Ext.push | (refine Ext.set ?_ (by first | assumption | exact Nat.le_refl _ | exact Ext.size (by assumption) | omega | (simp only [Heap.size_push, Heap.size_set] at *; omega))))); done)))); rfl; conv => whnf)))
    refine callP_fn (s42 hB (fun b3 b4 => ?_) (fun b3 => ?_))
    rotate_left
    · (conv => whnf)
      exact h2 _ (by decide)
    (conv => whnf)
    (repeat (first | (refine numP.mk (by unfold inI; first | omega | (dsimp only at *; omega)) ?_; conv => whnf) | ((first | apply loadP_get | apply loadP_agg' | apply storeP_getR); (focus ((repeat' (first | assumption | exact At.self | (refine At.setSelf (by (first | omega | (simp only [Heap.size_push, Heap.size_set]; omega)))) | apply At.push | (refine At.setNe ?_ (by (first | omega | (simp only [Heap.size_push, Heap.size_set]; omega)))) | (refine Ext.at' (by assumption) _ _ ?_))); done)); rfl; conv => whnf) | ((first | apply loadP_cells0 | apply loadP_cellsA | apply idxP_sl); (first | assumption | ((first | refine Cells.ext (by assumption) ?_ | refine SlP.ext (by assumption) ?_); (focus ((repeat' (first | assumption | exact Ext.refl _ | apply Ext.push | (refine Ext.set ?_ (by first | assumption | exact Nat.le_refl _ | exact Ext.size (by assumption) | omega | (simp only [Heap.size_push, Heap.size_set] at *; omega))))); done)))); (first | rfl | assumption); (try intro _ _ _); conv => whnf) | (apply loadP_cells; (first | assumption | ((first | refine Cells.ext (by assumption) ?_ | refine SlP.ext (by assumption) ?_); (focus ((repeat' (first | assumption | exact Ext.refl _ | apply Ext.push | (refine Ext.set ?_ (by first | assumption | exact Nat.le_refl _ | exact Ext.size (by assumption) | omega | (simp only [Heap.size_push, Heap.size_set] at *; omega))))); done)))); rfl; conv => whnf)))
    refine callP_fn (s42 hB (fun b5 b6 => ?_) (fun b5 => ?_))
    rotate_left
    · (conv => whnf)
      exact h2 _ (by decide)
    (conv => whnf)
    have hok : PgOk hands x := ⟨⟨b1, b2⟩, ⟨b3, b4⟩, ⟨b5, b6⟩⟩
    have hall : ∀ k y, k < i + 1 → l[k]? = some y → PgOk hands y := by
      intro k y hk hy
      by_cases hki : k = i
      · subst hki; rw [hx] at hy; cases hy; exact hok
      · exact k2 k y (by omega) hy
    refine ifP.mk (fun b7 => ?_) (fun b7 => ?_)
    · (conv => whnf)
      (repeat (first | (refine numP.mk (by unfold inI; first | omega | (dsimp only at *; omega)) ?_; conv => whnf) | ((first | apply loadP_get | apply loadP_agg' | apply storeP_getR); (focus ((repeat' (first | assumption | exact At.self | (refine At.setSelf (by (first | omega | (simp only [Heap.size_push, Heap.size_set]; omega)))) | apply At.push | (refine At.setNe ?_ (by (first | omega | (simp only [Heap.size_push, Heap.size_set]; omega)))) | (refine Ext.at' (by assumption) _ _ ?_))); done)); rfl; conv => whnf) | ((first | apply loadP_cells0 | apply loadP_cellsA | apply idxP_sl); (first | assumption | ((first | refine Cells.ext (by assumption) ?_ | refine SlP.ext (by assumption) ?_); (focus ((repeat' (first | assumption | exact Ext.refl _ | apply Ext.push | (refine Ext.set ?_ (by first | assumption | exact Nat.le_refl _ | exact Ext.size (by assumption) | omega | (simp only [Heap.size_push, Heap.size_set] at *; omega))))); done)))); (first | rfl | assumption); (try intro _ _ _); conv => whnf) | (apply loadP_cells; (first | assumption | ((first | refine Cells.ext (by assumption) ?_ | refine SlP.ext (by assumption) ?_); (focus ((repeat' (first | assumption | exact Ext.refl _ | apply Ext.push | (refine Ext.set ?_ (by first | assumption | exact Nat.le_refl _ | exact Ext.size (by assumption) | omega | (simp only [Heap.size_push, Heap.size_set] at *; omega))))); done)))); rfl; conv => whnf)))
      obtain ⟨y, hy⟩ : ∃ y, l[i - 1]? = some y := ⟨l[i - 1], by simp⟩
      refine idxP_slj (i := i - 1) (by omega) hl hy fun b o hc => ?_
      (conv => whnf)
      (repeat (first | (refine numP.mk (by unfold inI; first | omega | (dsimp only at *; omega)) ?_; conv => whnf) | ((first | apply loadP_get | apply loadP_agg' | apply storeP_getR); (focus ((repeat' (first | assumption | exact At.self | (refine At.setSelf (by (first | omega | (simp only [Heap.size_push, Heap.size_set]; omega)))) | apply At.push | (refine At.setNe ?_ (by (first | omega | (simp only [Heap.size_push, Heap.size_set]; omega)))) | (refine Ext.at' (by assumption) _ _ ?_))); done)); rfl; conv => whnf) | ((first | apply loadP_cells0 | apply loadP_cellsA | apply idxP_sl); (first | assumption | ((first | refine Cells.ext (by assumption) ?_ | refine SlP.ext (by assumption) ?_); (focus ((repeat' (first | assumption | exact Ext.refl _ | apply Ext.push | (refine Ext.set ?_ (by first | assumption | exact Nat.le_refl _ | exact Ext.size (by assumption) | omega | (simp only [Heap.size_push, Heap.size_set] at *; omega))))); done)))); (first | rfl | assumption); (try intro _ _ _); conv => whnf) | (apply loadP_cells; (first | assumption | ((first | refine Cells.ext (by assumption) ?_ | refine SlP.ext (by assumption) ?_); (focus ((repeat' (first | assumption | exact Ext.refl _ | apply Ext.push | (refine Ext.set ?_ (by first | assumption | exact Nat.le_refl _ | exact Ext.size (by assumption) | omega | (simp only [Heap.size_push, Heap.size_set] at *; omega))))); done)))); rfl; conv => whnf)))
      refine ifP.mk (fun b8 => ?_) (fun b8 => ?_)
      · (conv => whnf)
        exact h2 _ (by decide)
      (conv => whnf)
      (repeat (first | (refine numP.mk (by unfold inI; first | omega | (dsimp only at *; omega)) ?_; conv => whnf) | ((first | apply loadP_get | apply loadP_agg' | apply storeP_getR); (focus ((repeat' (first | assumption | exact At.self | (refine At.setSelf (by (first | omega | (simp only [Heap.size_push, Heap.size_set]; omega)))) | apply At.push | (refine At.setNe ?_ (by (first | omega | (simp only [Heap.size_push, Heap.size_set]; omega)))) | (refine Ext.at' (by assumption) _ _ ?_))); done)); rfl; conv => whnf) | ((first | apply loadP_cells0 | apply loadP_cellsA | apply idxP_sl); (first | assumption | ((first | refine Cells.ext (by assumption) ?_ | refine SlP.ext (by assumption) ?_); (focus ((repeat' (first | assumption | exact Ext.refl _ | apply Ext.push | (refine Ext.set ?_ (by first | assumption | exact Nat.le_refl _ | exact Ext.size (by assumption) | omega | (simp only [Heap.size_push, Heap.size_set] at *; omega))))); done)))); (first | rfl | assumption); (try intro _ _ _); conv => whnf) | (apply loadP_cells; (first | assumption | ((first | refine Cells.ext (by assumption) ?_ | refine SlP.ext (by assumption) ?_); (focus ((repeat' (first | assumption | exact Ext.refl _ | apply Ext.push | (refine Ext.set ?_ (by first | assumption | exact Nat.le_refl _ | exact Ext.size (by assumption) | omega | (simp only [Heap.size_push, Heap.size_set] at *; omega))))); done)))); rfl; conv => whnf)))
      refine ⟨i + 1, ⟨rfl, rfl, rfl, trivial⟩, ⟨rfl, by omega, hall, ?_⟩, by omega⟩
      intro k u v hk hu hv
      by_cases hki : k + 1 = i
      · have hk2 : k = i - 1 := by omega
        subst hk2
        rw [hy] at hu; cases hu
        rw [show i - 1 + 1 = i by omega, hx] at hv; cases hv
        omega
      · exact k3 k u v (by omega) hu hv
    · (conv => whnf)
      (repeat (first | (refine numP.mk (by unfold inI; first | omega | (dsimp only at *; omega)) ?_; conv => whnf) | ((first | apply loadP_get | apply loadP_agg' | apply storeP_getR); (focus ((repeat' (first | assumption | exact At.self | (refine At.setSelf (by (first | omega | (simp only [Heap.size_push, Heap.size_set]; omega)))) | apply At.push | (refine At.setNe ?_ (by (first | omega | (simp only [Heap.size_push, Heap.size_set]; omega)))) | (refine Ext.at' (by assumption) _ _ ?_))); done)); rfl; conv => whnf) | ((first | apply loadP_cells0 | apply loadP_cellsA | apply idxP_sl); (first | assumption | ((first | refine Cells.ext (by assumption) ?_ | refine SlP.ext (by assumption) ?_); (focus ((repeat' (first | assumption | exact Ext.refl _ | apply Ext.push | (refine Ext.set ?_ (by first | assumption | exact Nat.le_refl _ | exact Ext.size (by assumption) | omega | (simp only [Heap.size_push, Heap.size_set] at *; omega))))); done)))); (first | rfl | assumption); (try intro _ _ _); conv => whnf) | (apply loadP_cells; (first | assumption | ((first | refine Cells.ext (by assumption) ?_ | refine SlP.ext (by assumption) ?_); (focus ((repeat' (first | assumption | exact Ext.refl _ | apply Ext.push | (refine Ext.set ?_ (by first | assumption | exact Nat.le_refl _ | exact Ext.size (by assumption) | omega | (simp only [Heap.size_push, Heap.size_set] at *; omega))))); done)))); rfl; conv => whnf)))
      refine ⟨i + 1, ⟨rfl, rfl, rfl, trivial⟩, ⟨rfl, by omega, hall, ?_⟩, by omega⟩
      intro k u v hk hu hv
      exact k3 k u v (by omega) hu hv
  · (conv => whnf)
    have hin : i = n := by omega
    subst hin
    refine h1 ⟨⟨a1, a2⟩, ⟨a3, a4⟩, by omega, fun k x hx => k2 k x (by rw [hlen]; exact (List.getElem?_eq_some_iff.1 hx).1) hx, fun k x y hx hy => k3 k x y (by rw [hlen]; exact (List.getElem?_eq_some_iff.1 hy).1) hx hy⟩

/-- What a call back of numbers answers. -/
def Asks (B : CallPred) (g : FuncId) (first captured : List Value) (P : Int → Prop) : Prop :=
  ∀ (x : Int) (H : Heap) (R : Value → Heap → Prop), (P x → R (.bool true) H) → (¬ P x → R (.bool false) H) → ACall AP B (.fn g) (first ++ [.int .i64 x] ++ captured) H R

theorem s207 {g : FuncId} {first captured : List Value} {P : Int → Prop} (hg : Asks B g first captured P) {p : Option Addr} {n c : Nat} {l : List Int} {H : Heap} {R : Value → Heap → Prop} (hl : SlP H 1 encI p n l) (hn : n < 1000000)
    (h1 : ∀ (i : Nat) x, l[i]? = some x → P x → R (.int .i64 (i : Int)) H) (h2 : (∀ x ∈ l, ¬ P x) → R (.int .i64 (-1)) H) :
    ACall AP B (.fn 207) [.slice p n c, .func (.func g) ⟨first⟩ ⟨captured⟩] H R := by
  have hlen := hl.len
  (refine run_fn hB (a := a207) ap207 (by decide +kernel) rfl (by decide) ?_; conv => whnf)
  refine loop_pins (CallMono.acall hB) (σ := Nat) (fun i => [(0, .slice p n c), (1, .func (.func g) ⟨first⟩ ⟨captured⟩), (7, .int .i64 (n : Int)), (8, .int .i64 (i : Int))])
    (fun i H' => H' = H ∧ i ≤ n ∧ ∀ k x, k < i → l[k]? = some x → ¬ P x) (fun i => n - i) 0 ?_ ?_ ?_
  · exact ⟨rfl, rfl, rfl, rfl, trivial⟩
  · exact ⟨rfl, by simp, by simp⟩
  rintro i E H ⟨rfl, k1, k2⟩
  (conv => whnf)
  refine ifP.mk (fun hlt => ?_) (fun hge => ?_)
  · (conv => whnf)
    obtain ⟨x, hx⟩ : ∃ x, l[i]? = some x := ⟨l[i], by simp⟩
    (repeat (first | (refine numP.mk (by unfold inI; first | omega | (dsimp only at *; omega)) ?_; conv => whnf) | ((first | apply loadP_get | apply loadP_agg' | apply storeP_getR); (focus ((repeat' (first | assumption | exact At.self | (refine At.setSelf (by (first | omega | (simp only [Heap.size_push, Heap.size_set]; omega)))) | apply At.push | (refine At.setNe ?_ (by (first | omega | (simp only [Heap.size_push, Heap.size_set]; omega)))) | (refine Ext.at' (by assumption) _ _ ?_))); done)); rfl; conv => whnf) | ((first | apply loadP_cells0 | apply loadP_cellsA | apply idxP_sl); (first | assumption | ((first | refine Cells.ext (by assumption) ?_ | refine SlP.ext (by assumption) ?_); (focus ((repeat' (first | assumption | exact Ext.refl _ | apply Ext.push | (refine Ext.set ?_ (by first | assumption | exact Nat.le_refl _ | exact Ext.size (by assumption) | omega | (simp only [Heap.size_push, Heap.size_set] at *; omega))))); done)))); (first | rfl | assumption); (try intro _ _ _); conv => whnf) | (apply loadP_cells; (first | assumption | ((first | refine Cells.ext (by assumption) ?_ | refine SlP.ext (by assumption) ?_); (focus ((repeat' (first | assumption | exact Ext.refl _ | apply Ext.push | (refine Ext.set ?_ (by first | assumption | exact Nat.le_refl _ | exact Ext.size (by assumption) | omega | (simp only [Heap.size_push, Heap.size_set] at *; omega))))); done)))); rfl; conv => whnf)))
    refine callP_fn ?_
    refine hg x _ _ (fun b1 => ?_) (fun b1 => ?_)
    · (conv => whnf)
      exact h1 i x hx b1
    · (conv => whnf)
      (repeat (first | (refine numP.mk (by unfold inI; first | omega | (dsimp only at *; omega)) ?_; conv => whnf) | ((first | apply loadP_get | apply loadP_agg' | apply storeP_getR); (focus ((repeat' (first | assumption | exact At.self | (refine At.setSelf (by (first | omega | (simp only [Heap.size_push, Heap.size_set]; omega)))) | apply At.push | (refine At.setNe ?_ (by (first | omega | (simp only [Heap.size_push, Heap.size_set]; omega)))) | (refine Ext.at' (by assumption) _ _ ?_))); done)); rfl; conv => whnf) | ((first | apply loadP_cells0 | apply loadP_cellsA | apply idxP_sl); (first | assumption | ((first | refine Cells.ext (by assumption) ?_ | refine SlP.ext (by assumption) ?_); (focus ((repeat' (first | assumption | exact Ext.refl _ | apply Ext.push | (refine Ext.set ?_ (by first | assumption | exact Nat.le_refl _ | exact Ext.size (by assumption) | omega | (simp only [Heap.size_push, Heap.size_set] at *; omega))))); done)))); (first | rfl | assumption); (try intro _ _ _); conv => whnf) | (apply loadP_cells; (first | assumption | ((first | refine Cells.ext (by assumption) ?_ | refine SlP.ext (by assumption) ?_); (focus ((repeat' (first | assumption | exact Ext.refl _ | apply Ext.push | (refine Ext.set ?_ (by first | assumption | exact Nat.le_refl _ | exact Ext.size (by assumption) | omega | (simp only [Heap.size_push, Heap.size_set] at *; omega))))); done)))); rfl; conv => whnf)))
      refine ⟨i + 1, ⟨rfl, rfl, rfl, rfl, trivial⟩, ⟨rfl, by omega, ?_⟩, by omega⟩
      intro k y hk hy
      by_cases hki : k = i
      · subst hki; rw [hx] at hy; cases hy; exact b1
      · exact k2 k y (by omega) hy
  · (conv => whnf)
    refine h2 fun x hm => ?_
    obtain ⟨k, hk1, hk2⟩ := List.getElem_of_mem hm
    exact k2 k x (by omega) (by rw [List.getElem?_eq_getElem hk1, hk2])

theorem s158 {g : FuncId} {first captured : List Value} {P : Int → Prop} (hg : Asks B g first captured P) {p : Option Addr} {n c : Nat} {l : List Int} {H : Heap} {R : Value → Heap → Prop} (hl : SlP H 1 encI p n l) (hn : n < 1000000)
    (h1 : (∃ x ∈ l, P x) → R (.bool true) H) (h2 : (∀ x ∈ l, ¬ P x) → R (.bool false) H) :
    ACall AP B (.fn 158) [.slice p n c, .func (.func g) ⟨first⟩ ⟨captured⟩] H R := by
  (refine run_fn hB (a := a158) ap158 (by decide +kernel) rfl (by decide) ?_; conv => whnf)
  refine callP_fn ?_
  refine s207 hB hg hl hn (fun i x hx hp => ?_) (fun ha => ?_)
  · (conv => whnf)
    refine ifP.mk (fun b7 => ?_) (fun b7 => ?_)
    · (conv => whnf)
      exact h1 ⟨x, List.mem_of_getElem? hx, hp⟩
    · omega
  · (conv => whnf)
    refine ifP.mk (fun b7 => ?_) (fun b7 => ?_)
    · omega
    · (conv => whnf)
      exact h2 ha

theorem s161 : Asks B 161 [] [] fun x => ¬ (-200 ≤ x ∧ x ≤ 400) := by
  intro x H R h1 h2
  show ACall AP B (.fn 161) [.int .i64 x] H R
  (refine run_fn hB (a := a161) ap161 (by decide +kernel) rfl (by decide) ?_; conv => whnf)
  refine callP_fn (s105 hB (fun a1 a2 => ?_) (fun a1 => ?_))
  · (conv => whnf)
    exact h2 fun h => h ⟨a1, a2⟩
  · (conv => whnf)
    exact h1 a1

theorem s104 {hands many t : Int} {p : Option Addr} {c : Nat} {H : Heap} {R : Value → Heap → Prop} (hl : SlP H 1 encI p 1 [t]) (h1 : 1 ≤ hands ∧ hands ≤ 10) (h2 : many ≤ 200) (h3 : -200 ≤ t ∧ t ≤ 400) (hr : R (.int .i64 0) H) :
    ACall AP B (.fn 104) [.int .i64 hands, .int .i64 many, .slice p 1 c] H R := by
  (refine run_fn hB (a := a104) ap104 (by decide +kernel) rfl (by decide) ?_; conv => whnf)
  refine callP_fn (s53 hB (fun a1 a2 => ?_) (fun a1 => ?_))
  rotate_left
  · exact absurd h1 a1
  (conv => whnf)
  refine callP_fn ?_
  refine s158 hB (s161 hB) hl (by decide) (fun ⟨x, hx, hp⟩ => ?_) (fun _ => ?_)
  · simp at hx; subst hx; exact absurd h3 hp
  (conv => whnf)
  refine ifP.mk (fun b7 => ?_) (fun b7 => ?_)
  · omega
  (conv => whnf)
  exact hr

theorem s51 {hands tick : Int} {p : Option Addr} {n c : Nat} {l : List Pg} {H : Heap} {R : Value → Heap → Prop} (hl : SlP H 3 encP p n l) (hk : PagesOk hands n l tick)
    (h1 : ∀ H', Ext H H' → R (.int .i64 0) H') :
    ACall AP B (.fn 51) [.int .i64 hands, .slice p n c, .int .i64 tick] H R := by
  have hlen := hl.len
  (refine run_fn hB (a := a51) ap51 (by decide +kernel) rfl (by decide) ?_; conv => whnf)
  refine callP_fn ?_
  refine s104 hB (t := tick) ?_ hk.many (by have := hk.len; omega) hk.tick ?_
  · refine ⟨rfl, by simp [encI], fun i x hx => ?_⟩
    have hi : i = 0 := by have := (List.getElem?_eq_some_iff.1 hx).1; simp at this; exact this
    subst hi
    simp at hx; subst hx
    exact ⟨H.size, 0, rfl, _, _, _, At.self, Nat.le_of_ble_eq_true rfl, rfl⟩
  (conv => whnf)
  refine ifP.mk (fun a1 => absurd rfl a1) (fun _ => ?_)
  (conv => whnf)
  generalize hH : H.push _ = H1
  have hE : Ext H H1 := by rw [← hH]; exact (by (repeat' (first | assumption | exact Ext.refl _ | apply Ext.push | (refine Ext.set ?_ (by first | assumption | exact Nat.le_refl _ | exact Ext.size (by assumption) | omega | (simp only [Heap.size_push, Heap.size_set] at *; omega))))))
  refine loop_pins (CallMono.acall hB) (σ := Nat × Int) (fun s => [(0, .int .i64 hands), (8, .int .i64 s.2), (20, .slice p n c), (21, .int .i64 (n : Int)), (22, .int .i64 (s.1 : Int))])
    (fun s H' => Ext H1 H' ∧ s.1 ≤ n ∧ ∀ x, l[s.1]? = some x → s.2 ≤ x.tick) (fun s => n - s.1) (0, -200) ?_ ?_ ?_
  · exact ⟨rfl, rfl, rfl, rfl, rfl, trivial⟩
  · exact ⟨Ext.refl _, by simp, fun x hx => (hk.all 0 x hx).tick.1⟩
  rintro ⟨i, last⟩ E H' ⟨hE1, k1, k2⟩
  dsimp only at k1 k2
  have hE2 := hE.trans hE1
  (conv => whnf)
  refine ifP.mk (fun hlt => ?_) (fun hge => ?_)
  · (conv => whnf)
    obtain ⟨x, hx⟩ : ∃ x, l[i]? = some x := ⟨l[i], by simp⟩
    have ok := hk.all i x hx
    have hl' := hl.ext hE2
    have hm := hk.many
    have hnn := hk.len
    (repeat (first | (refine numP.mk (by unfold inI; first | omega | (dsimp only at *; omega)) ?_; conv => whnf) | ((first | apply loadP_get | apply loadP_agg' | apply storeP_getR); (focus ((repeat' (first | assumption | exact At.self | (refine At.setSelf (by (first | omega | (simp only [Heap.size_push, Heap.size_set]; omega)))) | apply At.push | (refine At.setNe ?_ (by (first | omega | (simp only [Heap.size_push, Heap.size_set]; omega)))) | (refine Ext.at' (by assumption) _ _ ?_))); done)); rfl; conv => whnf) | ((first | apply loadP_cells0 | apply loadP_cellsA | apply idxP_sl); (first | assumption | ((first | refine Cells.ext (by assumption) ?_ | refine SlP.ext (by assumption) ?_); (focus ((repeat' (first | assumption | exact Ext.refl _ | apply Ext.push | (refine Ext.set ?_ (by first | assumption | exact Nat.le_refl _ | exact Ext.size (by assumption) | omega | (simp only [Heap.size_push, Heap.size_set] at *; omega))))); done)))); (first | rfl | assumption); (try intro _ _ _); conv => whnf) | (apply loadP_cells; (first | assumption | ((first | refine Cells.ext (by assumption) ?_ | refine SlP.ext (by assumption) ?_); (focus ((repeat' (first | assumption | exact Ext.refl _ | apply Ext.push | (refine Ext.set ?_ (by first | assumption | exact Nat.le_refl _ | exact Ext.size (by assumption) | omega | (simp only [Heap.size_push, Heap.size_set] at *; omega))))); done)))); rfl; conv => whnf)))
    refine callP_fn (s53 hB (fun _ _ => ?_) (fun a1 => absurd ok.hand a1))
    (conv => whnf)
    (repeat (first | (refine numP.mk (by unfold inI; first | omega | (dsimp only at *; omega)) ?_; conv => whnf) | ((first | apply loadP_get | apply loadP_agg' | apply storeP_getR); (focus ((repeat' (first | assumption | exact At.self | (refine At.setSelf (by (first | omega | (simp only [Heap.size_push, Heap.size_set]; omega)))) | apply At.push | (refine At.setNe ?_ (by (first | omega | (simp only [Heap.size_push, Heap.size_set]; omega)))) | (refine Ext.at' (by assumption) _ _ ?_))); done)); rfl; conv => whnf) | ((first | apply loadP_cells0 | apply loadP_cellsA | apply idxP_sl); (first | assumption | ((first | refine Cells.ext (by assumption) ?_ | refine SlP.ext (by assumption) ?_); (focus ((repeat' (first | assumption | exact Ext.refl _ | apply Ext.push | (refine Ext.set ?_ (by first | assumption | exact Nat.le_refl _ | exact Ext.size (by assumption) | omega | (simp only [Heap.size_push, Heap.size_set] at *; omega))))); done)))); (first | rfl | assumption); (try intro _ _ _); conv => whnf) | (apply loadP_cells; (first | assumption | ((first | refine Cells.ext (by assumption) ?_ | refine SlP.ext (by assumption) ?_); (focus ((repeat' (first | assumption | exact Ext.refl _ | apply Ext.push | (refine Ext.set ?_ (by first | assumption | exact Nat.le_refl _ | exact Ext.size (by assumption) | omega | (simp only [Heap.size_push, Heap.size_set] at *; omega))))); done)))); rfl; conv => whnf)))
    refine callP_fn (s53 hB (fun _ _ => ?_) (fun a1 => absurd ok.kind a1))
    (conv => whnf)
    (repeat (first | (refine numP.mk (by unfold inI; first | omega | (dsimp only at *; omega)) ?_; conv => whnf) | ((first | apply loadP_get | apply loadP_agg' | apply storeP_getR); (focus ((repeat' (first | assumption | exact At.self | (refine At.setSelf (by (first | omega | (simp only [Heap.size_push, Heap.size_set]; omega)))) | apply At.push | (refine At.setNe ?_ (by (first | omega | (simp only [Heap.size_push, Heap.size_set]; omega)))) | (refine Ext.at' (by assumption) _ _ ?_))); done)); rfl; conv => whnf) | ((first | apply loadP_cells0 | apply loadP_cellsA | apply idxP_sl); (first | assumption | ((first | refine Cells.ext (by assumption) ?_ | refine SlP.ext (by assumption) ?_); (focus ((repeat' (first | assumption | exact Ext.refl _ | apply Ext.push | (refine Ext.set ?_ (by first | assumption | exact Nat.le_refl _ | exact Ext.size (by assumption) | omega | (simp only [Heap.size_push, Heap.size_set] at *; omega))))); done)))); (first | rfl | assumption); (try intro _ _ _); conv => whnf) | (apply loadP_cells; (first | assumption | ((first | refine Cells.ext (by assumption) ?_ | refine SlP.ext (by assumption) ?_); (focus ((repeat' (first | assumption | exact Ext.refl _ | apply Ext.push | (refine Ext.set ?_ (by first | assumption | exact Nat.le_refl _ | exact Ext.size (by assumption) | omega | (simp only [Heap.size_push, Heap.size_set] at *; omega))))); done)))); rfl; conv => whnf)))
    refine callP_fn (s105 hB (fun _ _ => ?_) (fun a1 => absurd ok.tick a1))
    (conv => whnf)
    (repeat (first | (refine numP.mk (by unfold inI; first | omega | (dsimp only at *; omega)) ?_; conv => whnf) | ((first | apply loadP_get | apply loadP_agg' | apply storeP_getR); (focus ((repeat' (first | assumption | exact At.self | (refine At.setSelf (by (first | omega | (simp only [Heap.size_push, Heap.size_set]; omega)))) | apply At.push | (refine At.setNe ?_ (by (first | omega | (simp only [Heap.size_push, Heap.size_set]; omega)))) | (refine Ext.at' (by assumption) _ _ ?_))); done)); rfl; conv => whnf) | ((first | apply loadP_cells0 | apply loadP_cellsA | apply idxP_sl); (first | assumption | ((first | refine Cells.ext (by assumption) ?_ | refine SlP.ext (by assumption) ?_); (focus ((repeat' (first | assumption | exact Ext.refl _ | apply Ext.push | (refine Ext.set ?_ (by first | assumption | exact Nat.le_refl _ | exact Ext.size (by assumption) | omega | (simp only [Heap.size_push, Heap.size_set] at *; omega))))); done)))); (first | rfl | assumption); (try intro _ _ _); conv => whnf) | (apply loadP_cells; (first | assumption | ((first | refine Cells.ext (by assumption) ?_ | refine SlP.ext (by assumption) ?_); (focus ((repeat' (first | assumption | exact Ext.refl _ | apply Ext.push | (refine Ext.set ?_ (by first | assumption | exact Nat.le_refl _ | exact Ext.size (by assumption) | omega | (simp only [Heap.size_push, Heap.size_set] at *; omega))))); done)))); rfl; conv => whnf)))
    refine ifP.mk (fun a1 => ?_) (fun _ => ?_)
    · have : last ≤ x.tick := k2 x hx
      have a1 : x.tick < last := a1
      omega
    (conv => whnf)
    (repeat (first | (refine numP.mk (by unfold inI; first | omega | (dsimp only at *; omega)) ?_; conv => whnf) | ((first | apply loadP_get | apply loadP_agg' | apply storeP_getR); (focus ((repeat' (first | assumption | exact At.self | (refine At.setSelf (by (first | omega | (simp only [Heap.size_push, Heap.size_set]; omega)))) | apply At.push | (refine At.setNe ?_ (by (first | omega | (simp only [Heap.size_push, Heap.size_set]; omega)))) | (refine Ext.at' (by assumption) _ _ ?_))); done)); rfl; conv => whnf) | ((first | apply loadP_cells0 | apply loadP_cellsA | apply idxP_sl); (first | assumption | ((first | refine Cells.ext (by assumption) ?_ | refine SlP.ext (by assumption) ?_); (focus ((repeat' (first | assumption | exact Ext.refl _ | apply Ext.push | (refine Ext.set ?_ (by first | assumption | exact Nat.le_refl _ | exact Ext.size (by assumption) | omega | (simp only [Heap.size_push, Heap.size_set] at *; omega))))); done)))); (first | rfl | assumption); (try intro _ _ _); conv => whnf) | (apply loadP_cells; (first | assumption | ((first | refine Cells.ext (by assumption) ?_ | refine SlP.ext (by assumption) ?_); (focus ((repeat' (first | assumption | exact Ext.refl _ | apply Ext.push | (refine Ext.set ?_ (by first | assumption | exact Nat.le_refl _ | exact Ext.size (by assumption) | omega | (simp only [Heap.size_push, Heap.size_set] at *; omega))))); done)))); rfl; conv => whnf)))
    refine ⟨(i + 1, x.tick), ⟨rfl, rfl, rfl, rfl, rfl, trivial⟩, ⟨?_, by show i + 1 ≤ n; omega, fun y hy => hk.sorted i x y hx hy⟩, by show n - (i + 1) < n - i; omega⟩
    exact (by (repeat' (first | assumption | exact Ext.refl _ | apply Ext.push | (refine Ext.set ?_ (by first | assumption | exact Nat.le_refl _ | exact Ext.size (by assumption) | omega | (simp only [Heap.size_push, Heap.size_set] at *; omega))))))
  · (conv => whnf)
    exact h1 _ hE2
end LV
