/- Part of the proof of this claim: text W1. -/
import Derived.Test.YtfcpgeanbklleaaGreatDoorAPB
import Derived.Test.YtfcpgeanbklleaaGreatDoorStops
set_option linter.unusedSectionVars false
set_option linter.unusedSimpArgs false
set_option linter.unusedVariables false
namespace LV
open Go Ab
set_option maxRecDepth 100000
variable {B : CallPred} (hB : BaseMono B)
include hB

theorem s42 {a b c : Int} {H : Heap} {R : Value → Heap → Prop} (h1 : b ≤ a → a ≤ c → R (.bool true) H) (h2 : ¬ (b ≤ a ∧ a ≤ c) → R (.bool false) H) : ACall AP B (.fn 42) [.int .i64 a, .int .i64 b, .int .i64 c] H R := by
  (refine run_fn hB (a := a42) ap42 (by decide +kernel) rfl (by decide) ?_; conv => whnf)
  refine ⟨fun hc => ?_, fun hc => ?_⟩ <;> conv => whnf
  · refine ⟨fun hd => ?_, fun hd => ?_⟩ <;> conv => whnf
    · exact h1 hc hd
    · exact h2 fun h => hd h.2
  · exact h2 fun h => hc h.1

theorem s53 {a b c : Int} {H : Heap} {R : Value → Heap → Prop} (h1 : b ≤ a → a ≤ c → R (.bool true) H) (h2 : ¬ (b ≤ a ∧ a ≤ c) → R (.bool false) H) : ACall AP B (.fn 53) [.int .i64 a, .int .i64 b, .int .i64 c] H R := by
  (refine run_fn hB (a := a53) ap53 (by decide +kernel) rfl (by decide) ?_; conv => whnf)
  refine ⟨fun hc => ?_, fun hc => ?_⟩ <;> conv => whnf
  · refine ⟨fun hd => ?_, fun hd => ?_⟩ <;> conv => whnf
    · exact h1 hc hd
    · exact h2 fun h => hd h.2
  · exact h2 fun h => hc h.1

theorem s44 {a : Int} {H : Heap} {R : Value → Heap → Prop} (h1 : -200 ≤ a → a ≤ 400 → R (.bool true) H) (h2 : ¬ (-200 ≤ a ∧ a ≤ 400) → R (.bool false) H) : ACall AP B (.fn 44) [.int .i64 a] H R := by
  (refine run_fn hB (a := a44) ap44 (by decide +kernel) rfl (by decide) ?_; conv => whnf)
  exact callP_fn (s42 hB h1 h2)

theorem s105 {a : Int} {H : Heap} {R : Value → Heap → Prop} (h1 : -200 ≤ a → a ≤ 400 → R (.bool true) H) (h2 : ¬ (-200 ≤ a ∧ a ≤ 400) → R (.bool false) H) : ACall AP B (.fn 105) [.int .i64 a] H R := by
  (refine run_fn hB (a := a105) ap105 (by decide +kernel) rfl (by decide) ?_; conv => whnf)
  exact callP_fn (s53 hB h1 h2)

theorem s91 {a : Int} {H : Heap} {R : Value → Heap → Prop} (h1 : 0 ≤ a → a ≤ 255 → R (.bool true) H) (h2 : ¬ (0 ≤ a ∧ a ≤ 255) → R (.bool false) H) : ACall AP B (.fn 91) [.int .i64 a] H R := by
  (refine run_fn hB (a := a91) ap91 (by decide +kernel) rfl (by decide) ?_; conv => whnf)
  exact callP_fn (s42 hB h1 h2)

theorem s163 {a : Int} {H : Heap} {R : Value → Heap → Prop} (h1 : 0 ≤ a → a ≤ 255 → R (.bool true) H) (h2 : ¬ (0 ≤ a ∧ a ≤ 255) → R (.bool false) H) : ACall AP B (.fn 163) [.int .i64 a] H R := by
  (refine run_fn hB (a := a163) ap163 (by decide +kernel) rfl (by decide) ?_; conv => whnf)
  exact callP_fn (s53 hB h1 h2)

/-- A number as a cell. -/
def encI (n : Int) : List Value := [.int .i64 n]

theorem s16 {p : Option Addr} {n c : Nat} {l : List Int} {x : Int} {H : Heap} {R : Value → Heap → Prop} (hl : SlP H 1 encI p n l) (hn : n < 1000000)
    (h1 : x ∈ l → R (.bool true) H) (h2 : ¬ x ∈ l → R (.bool false) H) : ACall AP B (.fn 16) [.slice p n c, .int .i64 x] H R := by
  (refine run_fn hB (a := a16) ap16 (by decide +kernel) rfl (by decide) ?_; conv => whnf)
  refine loop_pins (CallMono.acall hB) (σ := Nat) (fun i => [(0, .slice p n c), (1, .int .i64 x), (5, .int .i64 (i : Int))]) (fun i H' => H' = H ∧ i ≤ n ∧ ∀ k, k < i → l[k]? ≠ some x) (fun i => n - i) 0 ?_ ?_ ?_
  · exact ⟨rfl, rfl, rfl, trivial⟩
  · exact ⟨rfl, by omega, by simp⟩
  rintro i E H ⟨rfl, hi, hk⟩
  conv => whnf
  refine ⟨fun hlt => ?_, fun hge => ?_⟩ <;> conv => whnf
  · have hlen := hl.len
    obtain ⟨y, hy⟩ : ∃ y, l[i]? = some y := ⟨l[i], by simp⟩
    refine idxP_sl hl hy fun b o hc => ?_
    (conv => whnf)
    (repeat (first | (refine numP.mk (by unfold inI; first | omega | (dsimp only at *; omega)) ?_; conv => whnf) | ((first | apply loadP_get | apply loadP_agg' | apply storeP_getR); (focus ((repeat' (first | assumption | exact At.self | (refine At.setSelf (by (first | omega | (simp only [Heap.size_push, Heap.size_set]; omega)))) | apply At.push | (refine At.setNe ?_ (by (first | omega | (simp only [Heap.size_push, Heap.size_set]; omega)))) | (refine Ext.at' (by assumption) _ _ ?_))); done)); rfl; conv => whnf) | ((first | apply loadP_cells0 | apply loadP_cellsA | apply idxP_sl); (first | assumption | ((first | refine Cells.ext (by assumption) ?_ | refine SlP.ext (by assumption) ?_); (focus ((repeat' (first | assumption | exact Ext.refl _ | apply Ext.push | (refine Ext.set ?_ (by first | assumption | exact Nat.le_refl _ | exact Ext.size (by assumption) | omega | (simp only [Heap.size_push, Heap.size_set] at *; omega))))); done)))); (first | rfl | assumption); (try intro _ _ _); conv => whnf) | (apply loadP_cells; (first | assumption | ((first | refine Cells.ext (by assumption) ?_ | refine SlP.ext (by assumption) ?_); (focus ((repeat' (first | assumption | exact Ext.refl _ | apply Ext.push | (refine Ext.set ?_ (by first | assumption | exact Nat.le_refl _ | exact Ext.size (by assumption) | omega | (simp only [Heap.size_push, Heap.size_set] at *; omega))))); done)))); rfl; conv => whnf)))
    refine ⟨fun he => ?_, fun hne => ?_⟩ <;> conv => whnf
    · exact h1 (by rw [← he]; exact List.mem_of_getElem? hy)
    · (repeat (first | (refine numP.mk (by unfold inI; first | omega | (dsimp only at *; omega)) ?_; conv => whnf) | ((first | apply loadP_get | apply loadP_agg' | apply storeP_getR); (focus ((repeat' (first | assumption | exact At.self | (refine At.setSelf (by (first | omega | (simp only [Heap.size_push, Heap.size_set]; omega)))) | apply At.push | (refine At.setNe ?_ (by (first | omega | (simp only [Heap.size_push, Heap.size_set]; omega)))) | (refine Ext.at' (by assumption) _ _ ?_))); done)); rfl; conv => whnf) | ((first | apply loadP_cells0 | apply loadP_cellsA | apply idxP_sl); (first | assumption | ((first | refine Cells.ext (by assumption) ?_ | refine SlP.ext (by assumption) ?_); (focus ((repeat' (first | assumption | exact Ext.refl _ | apply Ext.push | (refine Ext.set ?_ (by first | assumption | exact Nat.le_refl _ | exact Ext.size (by assumption) | omega | (simp only [Heap.size_push, Heap.size_set] at *; omega))))); done)))); (first | rfl | assumption); (try intro _ _ _); conv => whnf) | (apply loadP_cells; (first | assumption | ((first | refine Cells.ext (by assumption) ?_ | refine SlP.ext (by assumption) ?_); (focus ((repeat' (first | assumption | exact Ext.refl _ | apply Ext.push | (refine Ext.set ?_ (by first | assumption | exact Nat.le_refl _ | exact Ext.size (by assumption) | omega | (simp only [Heap.size_push, Heap.size_set] at *; omega))))); done)))); rfl; conv => whnf)))
      refine ⟨i + 1, ⟨rfl, rfl, rfl, trivial⟩, ⟨rfl, by omega, fun k hk' => ?_⟩, by omega⟩
      by_cases hki : k = i
      · subst hki; rw [hy]; simpa using hne
      · exact hk k (by omega)
  · refine h2 fun hm => ?_
    obtain ⟨k, hk1, hk2⟩ := List.getElem_of_mem hm
    have hlen := hl.len
    exact hk k (by omega) (by rw [List.getElem?_eq_getElem hk1, hk2])
end LV
