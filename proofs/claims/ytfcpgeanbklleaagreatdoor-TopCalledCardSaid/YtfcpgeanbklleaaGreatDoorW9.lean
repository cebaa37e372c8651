/- Part of the proof of this claim: text W9. -/
import Derived.Test.YtfcpgeanbklleaaGreatDoorW8
set_option linter.unusedSectionVars false
set_option linter.unusedSimpArgs false
set_option linter.unusedVariables false
namespace LV
open Go Ab
set_option maxRecDepth 100000
variable {B : CallPred} (hB : BaseMono B)
include hB

theorem s129 {window most : Int} {bd : Nat} {C : List Value} {H : Heap} {R : Value → Heap → Prop} (hd : At H bd (.cells false 0 C)) (hC : IsB C) (hw : 1 ≤ window ∧ window ≤ 100)
    (h1 : ∀ H' b, Ext H H' → R (.bool b) H') :
    ACall AP B (.fn 129) [.pointer (some ⟨bd, 0, none⟩), .int .i64 window, .int .i64 most] H R := by
  have ld := hd.lt
  (refine run_fn hB (a := a129) ap129 (by decide +kernel) rfl (by decide) ?_; conv => whnf)
  (repeat (first | (refine numP.mk ?_ ?_; exact fN; conv => whnf) | ((first | apply loadP_get | apply loadP_agg' | apply storeP_getR); exact atT; rfl; conv => whnf) | ((first | apply loadP_cells0 | apply loadP_cellsA | apply idxP_sl); (first | exact ceC | exact slC); (first | rfl | assumption); (try intro _ _ _); conv => whnf) | (apply loadP_cells; exact ceC; rfl; conv => whnf)))
  generalize hH : Heap.set _ _ _ = H1
  have hE : Ext H H1 := by rw [← hH]; exact exT
  have h3 : At H1 H.size (.cells false 0 [.pointer (some ⟨bd, 0, none⟩)]) := by rw [← hH]; exact atT
  have h7 : At H1 (H.size + 1) (.cells false 0 [.int .i64 0]) := by
    rw [← hH]
    exact At.setNe (At.setSelf (by simp only [Heap.size_push]; omega)) (by simp only [Heap.size_push]; omega)
  have h8 : At H1 (H.size + 2) (.cells false 0 [.int .i64 0]) := by
    rw [← hH]
    exact At.setSelf (by simp only [Heap.size_push, Heap.size_set]; omega)
  refine loop_pins (CallMono.acall hB) (σ := Nat × Int × Int) (fun s => [(1, .int .i64 window), (2, .int .i64 most), (7, .pointer (some ⟨H.size + 1, 0, none⟩)), (8, .pointer (some ⟨H.size + 2, 0, none⟩)), (9, .func (.func 182) ⟨[]⟩ ⟨[.pointer (some ⟨H.size, 0, none⟩), .pointer (some ⟨H.size + 1, 0, none⟩), .pointer (some ⟨H.size + 2, 0, none⟩)]⟩), (12, .int .i64 (s.1 : Int))])
    (fun s H' => Ext H H' ∧ s.1 ≤ 900 ∧ At H' H.size (.cells false 0 [.pointer (some ⟨bd, 0, none⟩)]) ∧ At H' (H.size + 1) (.cells false 0 [.int .i64 s.2.1]) ∧ At H' (H.size + 2) (.cells false 0 [.int .i64 s.2.2]) ∧ -(2 * (s.1 : Int)) ≤ s.2.1 ∧ s.2.1 ≤ 2 * s.1 ∧ -(2 * (s.1 : Int)) ≤ s.2.2 ∧ s.2.2 ≤ 2 * s.1) (fun s => 900 - s.1) (0, 0, 0) ?_ ?_ ?_
  · exact ⟨rfl, rfl, rfl, rfl, rfl, rfl, trivial⟩
  · exact ⟨hE, by simp, h3, h7, h8, by simp, by simp, by simp, by simp⟩
  rintro ⟨t, x, y⟩ E H2 ⟨e2, k1, k3, k7, k8, b1, b2, b3, b4⟩
  dsimp only at k1 k3 k7 k8 b1 b2 b3 b4
  (conv => whnf)
  refine ifP.mk (fun hlt => ?_) (fun hge => ?_)
  · (conv => whnf)
    refine callP_fn ?_
    have hlt' : (t : Int) < 900 := hlt
    refine s182 (x := x) (y := y) hB k3 (e2.at' _ _ hd) hC k7 k8 (by omega) ⟨by omega, hlt'⟩ (by omega) (by omega) (by omega) fun H3 x' y' c3 => ?_
    have f1 : ∀ b z, At H b z → At H3 b z := fun b z hz => c3.frame b z (e2.at' _ _ hz) (by have := hz.lt; omega) (by have := hz.lt; omega)
    have e3 : Ext H H3 := ⟨f1, by rw [c3.size]; exact e2.size⟩
    have q3 := c3.frame _ _ k3 (by omega) (by omega)
    have q7 := c3.a7
    have q8 := c3.a8
    have qx := c3.x
    have qy := c3.y
    (conv => whnf)
    -- behind the second count
    have tail : ∀ H4 x4 y4, Ext H H4 → At H4 H.size (.cells false 0 [.pointer (some ⟨bd, 0, none⟩)]) → At H4 (H.size + 1) (.cells false 0 [.int .i64 x4]) → At H4 (H.size + 2) (.cells false 0 [.int .i64 y4]) → -(2 * (t : Int) + 2) ≤ x4 → x4 ≤ 2 * t + 2 → -(2 * (t : Int) + 2) ≤ y4 → y4 ≤ 2 * t + 2 →
        Ext H H4 ∧ t + 1 ≤ 900 ∧ At H4 H.size (.cells false 0 [.pointer (some ⟨bd, 0, none⟩)]) ∧ At H4 (H.size + 1) (.cells false 0 [.int .i64 x4]) ∧ At H4 (H.size + 2) (.cells false 0 [.int .i64 y4]) ∧ -(2 * ((t + 1 : Nat) : Int)) ≤ x4 ∧ x4 ≤ 2 * ((t + 1 : Nat) : Int) ∧ -(2 * ((t + 1 : Nat) : Int)) ≤ y4 ∧ y4 ≤ 2 * ((t + 1 : Nat) : Int) := by
      intro H4 x4 y4 g1 g2 g3 g4 g5 g6 g7 g8
      exact ⟨g1, by omega, g2, g3, g4, by omega, by omega, by omega, by omega⟩
    refine ifP.mk (fun hgw => ?_) (fun hlw => ?_)
    · have hgw' : window ≤ (t : Int) := hgw
      (conv => whnf)
      (repeat (first | (refine numP.mk ?_ ?_; exact fN; conv => whnf) | ((first | apply loadP_get | apply loadP_agg' | apply storeP_getR); exact atT; rfl; conv => whnf) | ((first | apply loadP_cells0 | apply loadP_cellsA | apply idxP_sl); (first | exact ceC | exact slC); (first | rfl | assumption); (try intro _ _ _); conv => whnf) | (apply loadP_cells; exact ceC; rfl; conv => whnf)))
      refine callP_fn ?_
      refine s182 (x := x') (y := y') hB q3 (e3.at' _ _ hd) hC q7 q8 (by omega) ⟨by show 0 ≤ (t : Int) - window; omega, by show (t : Int) - window < 900; omega⟩ (by omega) (by omega) (by omega) fun H5 x5 y5 c5 => ?_
      have f5 : ∀ b z, At H b z → At H5 b z := fun b z hz => c5.frame b z (e3.at' _ _ hz) (by have := hz.lt; omega) (by have := hz.lt; omega)
      have e5 : Ext H H5 := ⟨f5, by rw [c5.size]; exact e3.size⟩
      have q53 := c5.frame _ _ q3 (by omega) (by omega)
      have q57 := c5.a7
      have q58 := c5.a8
      have q5x := c5.x
      have q5y := c5.y
      have tl := tail H5 x5 y5 e5 q53 q57 q58 (by omega) (by omega) (by omega) (by omega)
      (conv => whnf)
      refine loadP_get q58 rfl ?_
      (conv => whnf)
      refine ifP.mk (fun _ => ?_) (fun _ => ?_)
      · (conv => whnf)
        refine loadP_get q57 rfl ?_
        (conv => whnf)
        refine ifP.mk (fun _ => ?_) (fun _ => ?_)
        · (conv => whnf)
          exact h1 _ _ e5
        · (conv => whnf)
          (repeat (first | (refine numP.mk ?_ ?_; exact fN; conv => whnf) | ((first | apply loadP_get | apply loadP_agg' | apply storeP_getR); exact atT; rfl; conv => whnf) | ((first | apply loadP_cells0 | apply loadP_cellsA | apply idxP_sl); (first | exact ceC | exact slC); (first | rfl | assumption); (try intro _ _ _); conv => whnf) | (apply loadP_cells; exact ceC; rfl; conv => whnf)))
          exact ⟨(t + 1, x5, y5), ⟨rfl, rfl, rfl, rfl, rfl, rfl, trivial⟩, tl, by show 900 - (t + 1) < 900 - t; omega⟩
      · (conv => whnf)
        (repeat (first | (refine numP.mk ?_ ?_; exact fN; conv => whnf) | ((first | apply loadP_get | apply loadP_agg' | apply storeP_getR); exact atT; rfl; conv => whnf) | ((first | apply loadP_cells0 | apply loadP_cellsA | apply idxP_sl); (first | exact ceC | exact slC); (first | rfl | assumption); (try intro _ _ _); conv => whnf) | (apply loadP_cells; exact ceC; rfl; conv => whnf)))
        exact ⟨(t + 1, x5, y5), ⟨rfl, rfl, rfl, rfl, rfl, rfl, trivial⟩, tl, by show 900 - (t + 1) < 900 - t; omega⟩
    · have tl := tail H3 x' y' e3 q3 q7 q8 (by omega) (by omega) (by omega) (by omega)
      (conv => whnf)
      refine loadP_get q8 rfl ?_
      (conv => whnf)
      refine ifP.mk (fun _ => ?_) (fun _ => ?_)
      · (conv => whnf)
        refine loadP_get q7 rfl ?_
        (conv => whnf)
        refine ifP.mk (fun _ => ?_) (fun _ => ?_)
        · (conv => whnf)
          exact h1 _ _ e3
        · (conv => whnf)
          (repeat (first | (refine numP.mk ?_ ?_; exact fN; conv => whnf) | ((first | apply loadP_get | apply loadP_agg' | apply storeP_getR); exact atT; rfl; conv => whnf) | ((first | apply loadP_cells0 | apply loadP_cellsA | apply idxP_sl); (first | exact ceC | exact slC); (first | rfl | assumption); (try intro _ _ _); conv => whnf) | (apply loadP_cells; exact ceC; rfl; conv => whnf)))
          exact ⟨(t + 1, x', y'), ⟨rfl, rfl, rfl, rfl, rfl, rfl, trivial⟩, tl, by show 900 - (t + 1) < 900 - t; omega⟩
      · (conv => whnf)
        (repeat (first | (refine numP.mk ?_ ?_; exact fN; conv => whnf) | ((first | apply loadP_get | apply loadP_agg' | apply storeP_getR); exact atT; rfl; conv => whnf) | ((first | apply loadP_cells0 | apply loadP_cellsA | apply idxP_sl); (first | exact ceC | exact slC); (first | rfl | assumption); (try intro _ _ _); conv => whnf) | (apply loadP_cells; exact ceC; rfl; conv => whnf)))
        exact ⟨(t + 1, x', y'), ⟨rfl, rfl, rfl, rfl, rfl, rfl, trivial⟩, tl, by show 900 - (t + 1) < 900 - t; omega⟩
  · (conv => whnf)
    exact h1 _ _ e2

theorem s77 {br : Nat} {s : Stn} {pl : Option Addr} {cl : Nat} {ds : List Nat} {i : Nat} {tick len : Int} {H : Heap} {R : Value → Heap → Prop} (hr : Roster H br s pl cl ds) (ok : StnOk s) (hi : i < s.n) (ht : 0 ≤ tick ∧ tick ≤ 200) (hln : 1 ≤ len ∧ len ≤ 40)
    (h1 : ∀ H' b, Ext H H' → R (.bool b) H') :
    ACall AP B (.fn 77) [.pointer (some ⟨br, 0, none⟩), .int .i64 (i : Int), .int .i64 tick, .int .i64 len] H R := by
  have hb := hr.box
  have hl := hr.logs
  have hlen := hl.len
  (refine run_fn hB (a := a77) ap77 (by decide +kernel) rfl (by decide) ?_; conv => whnf)
  obtain ⟨d, hx⟩ : ∃ d, ds[i]? = some d := ⟨ds[i], by simp⟩
  obtain ⟨C, hd, hC⟩ := hr.duties d (List.mem_of_getElem? hx)
  (repeat (first | (refine numP.mk ?_ ?_; exact fN; conv => whnf) | ((first | apply loadP_get | apply loadP_agg' | apply storeP_getR); exact atT; rfl; conv => whnf) | ((first | apply loadP_cells0 | apply loadP_cellsA | apply idxP_sl); (first | exact ceC | exact slC); (first | rfl | assumption); (try intro _ _ _); conv => whnf) | (apply loadP_cells; exact ceC; rfl; conv => whnf)))
  refine loadP_agg hd (by rw [hC.1]; decide) (by rw [List.drop_zero, List.take_of_length_le (by rw [hC.1]; decide)]) ?_
  (conv => whnf)
  (repeat (first | (refine numP.mk ?_ ?_; exact fN; conv => whnf) | ((first | apply loadP_get | apply loadP_agg' | apply storeP_getR); exact atT; rfl; conv => whnf) | ((first | apply loadP_cells0 | apply loadP_cellsA | apply idxP_sl); (first | exact ceC | exact slC); (first | rfl | assumption); (try intro _ _ _); conv => whnf) | (apply loadP_cells; exact ceC; rfl; conv => whnf)))
  refine callP_fn ?_
  refine s128 hB hC (by omega) (by omega) fun H2 b C2 e2 _ a2 c2 => ?_
  have hb2 := e2.at' _ _ hb
  (conv => whnf)
  refine ⟨keep_at hb hb2, ?_⟩
  (conv => whnf)
  refine ⟨keep_at hb hb2, ?_⟩
  (conv => whnf)
  refine callP_fn ?_
  refine s129 hB a2 c2 ok.window fun H3 u e3 => ?_
  (conv => whnf)
  exact h1 _ _ (e2.trans e3)
end LV
