/- Part of the proof of this claim: text W8. -/
import Derived.Test.YtfcpgeanbklleaaGreatDoorW7
set_option linter.unusedSectionVars false
set_option linter.unusedSimpArgs false
set_option linter.unusedVariables false
namespace LV
open Go Ab
set_option maxRecDepth 100000
variable {B : CallPred} (hB : BaseMono B)
include hB

theorem s128 {C : List Value} {lo hi : Int} {H : Heap} {R : Value → Heap → Prop} (hC : IsB C) (hlo : 0 ≤ lo ∧ lo ≤ 500) (hhi : hi ≤ 599)
    (h1 : ∀ H' b C', Ext H H' → H.size ≤ b → At H' b (.cells false 0 C') → IsB C' → R (.pointer (some ⟨b, 0, none⟩)) H') :
    ACall AP B (.fn 128) [.agg ⟨C⟩, .agg ⟨[.int .i64 lo, .int .i64 hi]⟩] H R := by
  (refine run_fn hB (a := a128) ap128 (by decide +kernel) rfl (by decide) ?_; conv => whnf)
  (repeat (first | (refine numP.mk ?_ ?_; exact fN; conv => whnf) | ((first | apply loadP_get | apply loadP_agg' | apply storeP_getR); exact atT; rfl; conv => whnf) | ((first | apply loadP_cells0 | apply loadP_cellsA | apply idxP_sl); (first | exact ceC | exact slC); (first | rfl | assumption); (try intro _ _ _); conv => whnf) | (apply loadP_cells; exact ceC; rfl; conv => whnf)))
  generalize hH : (H.push _).push _ = H1
  have hE : Ext H H1 := by rw [← hH]; exact exT
  have hA : At H1 H.size (.cells false 0 C) := by rw [← hH]; exact At.self.push
  have hA2 : At H1 (H.size + 1) (.cells false 0 [.int .i64 lo, .int .i64 hi]) := by rw [← hH]; exact At.self
  refine loop_pins (CallMono.acall hB) (σ := Nat) (fun t => [(2, .pointer (some ⟨H.size, 0, none⟩)), (3, .pointer (some ⟨H.size + 1, 0, none⟩)), (5, .int .i64 (lo + t))])
    (fun t H' => Ext H H' ∧ (t = 0 ∨ lo + t ≤ hi + 1) ∧ At H' (H.size + 1) (.cells false 0 [.int .i64 lo, .int .i64 hi]) ∧ ∃ C, At H' H.size (.cells false 0 C) ∧ IsB C) (fun t => (hi + 1 - lo - t).toNat) 0 ?_ ?_ ?_
  · exact ⟨rfl, rfl, by simp [upd], trivial⟩
  · exact ⟨hE, .inl rfl, hA2, C, hA, hC⟩
  rintro t E H2 ⟨e2, k1, k2, C2, k3, k4⟩
  have l2 := k2.lt
  (conv => whnf)
  (repeat (first | (refine numP.mk ?_ ?_; exact fN; conv => whnf) | ((first | apply loadP_get | apply loadP_agg' | apply storeP_getR); exact atT; rfl; conv => whnf) | ((first | apply loadP_cells0 | apply loadP_cellsA | apply idxP_sl); (first | exact ceC | exact slC); (first | rfl | assumption); (try intro _ _ _); conv => whnf) | (apply loadP_cells; exact ceC; rfl; conv => whnf)))
  refine ifP.mk (fun (b1 : lo + t ≤ hi) => ?_) (fun (b1 : ¬ lo + t ≤ hi) => ?_)
  · (conv => whnf)
    (repeat (first | (refine numP.mk ?_ ?_; exact fN; conv => whnf) | ((first | apply loadP_get | apply loadP_agg' | apply storeP_getR); exact atT; rfl; conv => whnf) | ((first | apply loadP_cells0 | apply loadP_cellsA | apply idxP_sl); (first | exact ceC | exact slC); (first | rfl | assumption); (try intro _ _ _); conv => whnf) | (apply loadP_cells; exact ceC; rfl; conv => whnf)))
    refine idxP_arr (by omega) (by omega) ?_
    (conv => whnf)
    refine storeP_get k3 rfl (by rw [k4.1]; omega) rfl ?_
    (conv => whnf)
    (repeat (first | (refine numP.mk ?_ ?_; exact fN; conv => whnf) | ((first | apply loadP_get | apply loadP_agg' | apply storeP_getR); exact atT; rfl; conv => whnf) | ((first | apply loadP_cells0 | apply loadP_cellsA | apply idxP_sl); (first | exact ceC | exact slC); (first | rfl | assumption); (try intro _ _ _); conv => whnf) | (apply loadP_cells; exact ceC; rfl; conv => whnf)))
    refine idxP_arr (by omega) (by omega) ?_
    (conv => whnf)
    refine storeP_get (C := C2.set (0 + 0 + (lo + ↑t + 300).toNat * 1) (.bool true)) (At.setSelf (by omega)) rfl (by rw [List.length_set, k4.1]; omega) rfl ?_
    (conv => whnf)
    (repeat (first | (refine numP.mk ?_ ?_; exact fN; conv => whnf) | ((first | apply loadP_get | apply loadP_agg' | apply storeP_getR); exact atT; rfl; conv => whnf) | ((first | apply loadP_cells0 | apply loadP_cellsA | apply idxP_sl); (first | exact ceC | exact slC); (first | rfl | assumption); (try intro _ _ _); conv => whnf) | (apply loadP_cells; exact ceC; rfl; conv => whnf)))
    refine ⟨t + 1, ⟨rfl, rfl, ?_, trivial⟩, ⟨exT, .inr (by omega), atT, _, At.setSelf (by rw [Heap.size_set]; omega), (k4.set _ _).set _ _⟩, by omega⟩
    show Value.int .i64 (lo + t + 1) = .int .i64 (lo + ((t + 1 : Nat) : Int))
    congr 1; omega
  · (conv => whnf)
    exact h1 _ _ _ e2 (Nat.le_refl _) k3 k4

/-- What a round of counting leaves. -/
structure Counted (H H' : Heap) (b7 b8 : Nat) (x y x' y' by' : Int) : Prop where
  a7 : At H' b7 (.cells false 0 [.int .i64 x'])
  a8 : At H' b8 (.cells false 0 [.int .i64 y'])
  x : x' = x ∨ x' = x + by'
  y : y' = y ∨ y' = y + by'
  frame : ∀ b z, At H b z → b ≠ b7 → b ≠ b8 → At H' b z
  size : H'.size = H.size

theorem s182 {t by' x y : Int} {b3 b7 b8 bd : Nat} {C : List Value} {H : Heap} {R : Value → Heap → Prop} (h3 : At H b3 (.cells false 0 [.pointer (some ⟨bd, 0, none⟩)])) (hd : At H bd (.cells false 0 C)) (hC : IsB C) (h7 : At H b7 (.cells false 0 [.int .i64 x])) (h8 : At H b8 (.cells false 0 [.int .i64 y]))
    (hne : b7 ≠ b8) (ht : 0 ≤ t ∧ t < 900) (hx : -3000 ≤ x ∧ x ≤ 3000) (hy : -3000 ≤ y ∧ y ≤ 3000) (hby : -1 ≤ by' ∧ by' ≤ 1)
    (h1 : ∀ H' x' y', Counted H H' b7 b8 x y x' y' by' → R (.tuple ⟨[]⟩) H') :
    ACall AP B (.fn 182) [.int .i64 t, .int .i64 by', .pointer (some ⟨b3, 0, none⟩), .pointer (some ⟨b7, 0, none⟩), .pointer (some ⟨b8, 0, none⟩)] H R := by
  have n73 : b3 ≠ b7 := h3.ne h7 (by simp)
  have n7d : bd ≠ b7 := hd.ne h7 (by rintro ⟨⟩; have := hC.1; simp at this)
  have l7 := h7.lt
  have l8 := h8.lt
  have fin : ∀ H1 x', At H1 b3 (.cells false 0 [.pointer (some ⟨bd, 0, none⟩)]) → At H1 bd (.cells false 0 C) → At H1 b7 (.cells false 0 [.int .i64 x']) → At H1 b8 (.cells false 0 [.int .i64 y]) → (x' = x ∨ x' = x + by') → (∀ b z, At H b z → b ≠ b7 → At H1 b z) → H1.size = H.size →
      (Counted H H1 b7 b8 x y x' y by') ∧ Counted H (H1.set b8 (.cells false 0 [.int .i64 (y + by')])) b7 b8 x y x' (y + by') by' := by
    intro H1 x' g3 gd g7 g8 gx gf gs
    refine ⟨⟨g7, g8, gx, .inl rfl, fun b z hz hb7 hb8 => gf b z hz hb7, gs⟩, ⟨At.setNe g7 hne, At.setSelf g8.lt, gx, .inr rfl, fun b z hz hb7 hb8 => (gf b z hz hb7).setNe hb8, gs⟩⟩
  (refine run_fn hB (a := a182) ap182 (by decide +kernel) rfl (by decide) ?_; conv => whnf)
  (repeat (first | (refine numP.mk ?_ ?_; exact fN; conv => whnf) | ((first | apply loadP_get | apply loadP_agg' | apply storeP_getR); exact atT; rfl; conv => whnf) | ((first | apply loadP_cells0 | apply loadP_cellsA | apply idxP_sl); (first | exact ceC | exact slC); (first | rfl | assumption); (try intro _ _ _); conv => whnf) | (apply loadP_cells; exact ceC; rfl; conv => whnf)))
  refine idxP_arr (by omega) (by omega) ?_
  (conv => whnf)
  obtain ⟨u, hu⟩ := hC.get (i := 0 + 0 + t.toNat * 1) (by omega)
  refine loadP_get hd hu ?_
  (conv => whnf)
  obtain ⟨v, hv⟩ := hC.get (i := 0 + 900 + t.toNat * 1) (by omega)
  refine brP_intro (fun _ => ?_) (fun _ => ?_)
  · (conv => whnf)
    (repeat (first | (refine numP.mk ?_ ?_; exact fN; conv => whnf) | ((first | apply loadP_get | apply loadP_agg' | apply storeP_getR); exact atT; rfl; conv => whnf) | ((first | apply loadP_cells0 | apply loadP_cellsA | apply idxP_sl); (first | exact ceC | exact slC); (first | rfl | assumption); (try intro _ _ _); conv => whnf) | (apply loadP_cells; exact ceC; rfl; conv => whnf)))
    refine idxP_arr (by omega) (by omega) ?_
    (conv => whnf)
    refine loadP_get atT hv ?_
    (conv => whnf)
    obtain ⟨f1, f2⟩ := fin (H.set b7 (.cells false 0 [.int .i64 (x + by')])) (x + by') atT atT atT atT (.inr rfl) (fun b z hz hb => hz.setNe hb) rfl
    refine brP_intro (fun _ => ?_) (fun _ => ?_)
    · (conv => whnf)
      (repeat (first | (refine numP.mk ?_ ?_; exact fN; conv => whnf) | ((first | apply loadP_get | apply loadP_agg' | apply storeP_getR); exact atT; rfl; conv => whnf) | ((first | apply loadP_cells0 | apply loadP_cellsA | apply idxP_sl); (first | exact ceC | exact slC); (first | rfl | assumption); (try intro _ _ _); conv => whnf) | (apply loadP_cells; exact ceC; rfl; conv => whnf)))
      exact h1 _ _ _ f2
    · (conv => whnf)
      exact h1 _ _ _ f1
  · (conv => whnf)
    (repeat (first | (refine numP.mk ?_ ?_; exact fN; conv => whnf) | ((first | apply loadP_get | apply loadP_agg' | apply storeP_getR); exact atT; rfl; conv => whnf) | ((first | apply loadP_cells0 | apply loadP_cellsA | apply idxP_sl); (first | exact ceC | exact slC); (first | rfl | assumption); (try intro _ _ _); conv => whnf) | (apply loadP_cells; exact ceC; rfl; conv => whnf)))
    refine idxP_arr (by omega) (by omega) ?_
    (conv => whnf)
    refine loadP_get atT hv ?_
    (conv => whnf)
    obtain ⟨f1, f2⟩ := fin H x h3 hd h7 h8 (.inl rfl) (fun b z hz _ => hz) rfl
    refine brP_intro (fun _ => ?_) (fun _ => ?_)
    · (conv => whnf)
      (repeat (first | (refine numP.mk ?_ ?_; exact fN; conv => whnf) | ((first | apply loadP_get | apply loadP_agg' | apply storeP_getR); exact atT; rfl; conv => whnf) | ((first | apply loadP_cells0 | apply loadP_cellsA | apply idxP_sl); (first | exact ceC | exact slC); (first | rfl | assumption); (try intro _ _ _); conv => whnf) | (apply loadP_cells; exact ceC; rfl; conv => whnf)))
      exact h1 _ _ _ f2
    · (conv => whnf)
      exact h1 _ _ _ f1
end LV
