/- Part of the proof of this claim: text W15. -/
import Derived.Test.YtfcpgeanbklleaaGreatDoorW14
set_option linter.unusedSectionVars false
set_option linter.unusedSimpArgs false
set_option linter.unusedVariables false
namespace LV
open Go Ab
set_option maxRecDepth 100000
theorem Mine.inv {H0 H : Heap} {esz n c : Nat} {p : Option Addr} {C : List Value} (h : Mine H0 H esz p n c C) (hn : n ≠ 0) : ∃ b, p = some ⟨b, 0, none⟩ ∧ c = openCap ∧ H0.size ≤ b ∧ At H b (.cells false esz C) := by
  cases h with
  | nil => exact absurd rfl hn
  | mk h1 h2 h3 => exact ⟨_, rfl, rfl, h1, h2⟩

variable {B : CallPred} (hB : BaseMono B)
include hB

theorem s3 {s : Stn} {call len : Int} {p : Option Addr} {n c : Nat} {seats : List Int} {pp : Option Addr} {np cp : Nat} {pages : List Pg} {tick every : Int} {wy : List Value} {H : Heap} {R : Value → Heap → Prop}
    (hs : StnAt H s) (hl : SlP H 1 encI p n seats) (hp : SlP H 3 encP pp np pages) (hW : At H 0 (.cells true 0 wy))
    (hL : ∀ (H : Heap) (R : Value → Heap → Prop), At H 0 (.cells true 0 wy) → R (.bool true) H → ACall AP B (.fn 12) [] H R)
    (h1 : ∀ H', Ext H H' → R (.bool true) H') :
    ACall AP B (.fn 3) [.agg ⟨encSt s⟩, .agg ⟨[.int .i64 call, .slice p n c, .int .i64 len]⟩, .agg ⟨[.slice pp np cp, .int .i64 tick, .int .i64 every]⟩] H R := by
  have hlen := hp.len
  (refine run_fn hB (a := a3) ap3 (by decide +kernel) rfl (by decide) ?_; conv => whnf)
  (repeat (first | (refine numP.mk (by unfold inI; first | omega | (dsimp only at *; omega)) ?_; conv => whnf) | ((first | apply loadP_get | apply loadP_agg' | apply storeP_getR); (focus ((repeat' (first | assumption | exact At.self | (refine At.setSelf (by (first | omega | (simp only [Heap.size_push, Heap.size_set]; omega)))) | apply At.push | (refine At.setNe ?_ (by (first | omega | (simp only [Heap.size_push, Heap.size_set]; omega)))) | (refine Ext.at' (by assumption) _ _ ?_))); done)); rfl; conv => whnf) | ((first | apply loadP_cells0 | apply loadP_cellsA | apply idxP_sl); (first | assumption | ((first | refine Cells.ext (by assumption) ?_ | refine SlP.ext (by assumption) ?_); (focus ((repeat' (first | assumption | exact Ext.refl _ | apply Ext.push | (refine Ext.set ?_ (by first | assumption | exact Nat.le_refl _ | exact Ext.size (by assumption) | omega | (simp only [Heap.size_push, Heap.size_set] at *; omega))))); done)))); (first | rfl | assumption); (try intro _ _ _); conv => whnf) | (apply loadP_cells; (first | assumption | ((first | refine Cells.ext (by assumption) ?_ | refine SlP.ext (by assumption) ?_); (focus ((repeat' (first | assumption | exact Ext.refl _ | apply Ext.push | (refine Ext.set ?_ (by first | assumption | exact Nat.le_refl _ | exact Ext.size (by assumption) | omega | (simp only [Heap.size_push, Heap.size_set] at *; omega))))); done)))); rfl; conv => whnf)))
  generalize hH : ((H.push _).push _).push _ = H1
  have e1 : Ext H H1 := by rw [← hH]; exact (by (repeat' (first | assumption | exact Ext.refl _ | apply Ext.push | (refine Ext.set ?_ (by first | assumption | exact Nat.le_refl _ | exact Ext.size (by assumption) | omega | (simp only [Heap.size_push, Heap.size_set] at *; omega))))))
  have a1 : At H1 H.size (.cells false 0 (encSt s)) := by rw [← hH]; exact (by (repeat' (first | assumption | exact At.self | (refine At.setSelf (by (first | omega | (simp only [Heap.size_push, Heap.size_set]; omega)))) | apply At.push | (refine At.setNe ?_ (by (first | omega | (simp only [Heap.size_push, Heap.size_set]; omega)))) | (refine Ext.at' (by assumption) _ _ ?_))))
  have a2 : At H1 (H.size + 1) (.cells false 0 [.int .i64 call, .slice p n c, .int .i64 len]) := by rw [← hH]; exact At.push At.self
  have a3 : At H1 (H.size + 2) (.cells false 0 [.slice pp np cp, .int .i64 tick, .int .i64 every]) := by rw [← hH]; exact At.self
  -- the look at the end
  have look : ∀ (H' : Heap) (K : Value → Heap → Prop), Ext H1 H' → K (.bool true) H' → ACall AP B (.fn 12) [] H' K := fun H' K e k => hL H' K ((e1.trans e).at' _ _ hW) k
  (repeat (first | (refine numP.mk (by unfold inI; first | omega | (dsimp only at *; omega)) ?_; conv => whnf) | ((first | apply loadP_get | apply loadP_agg' | apply storeP_getR); (focus ((repeat' (first | assumption | exact At.self | (refine At.setSelf (by (first | omega | (simp only [Heap.size_push, Heap.size_set]; omega)))) | apply At.push | (refine At.setNe ?_ (by (first | omega | (simp only [Heap.size_push, Heap.size_set]; omega)))) | (refine Ext.at' (by assumption) _ _ ?_))); done)); rfl; conv => whnf) | ((first | apply loadP_cells0 | apply loadP_cellsA | apply idxP_sl); (first | assumption | ((first | refine Cells.ext (by assumption) ?_ | refine SlP.ext (by assumption) ?_); (focus ((repeat' (first | assumption | exact Ext.refl _ | apply Ext.push | (refine Ext.set ?_ (by first | assumption | exact Nat.le_refl _ | exact Ext.size (by assumption) | omega | (simp only [Heap.size_push, Heap.size_set] at *; omega))))); done)))); (first | rfl | assumption); (try intro _ _ _); conv => whnf) | (apply loadP_cells; (first | assumption | ((first | refine Cells.ext (by assumption) ?_ | refine SlP.ext (by assumption) ?_); (focus ((repeat' (first | assumption | exact Ext.refl _ | apply Ext.push | (refine Ext.set ?_ (by first | assumption | exact Nat.le_refl _ | exact Ext.size (by assumption) | omega | (simp only [Heap.size_push, Heap.size_set] at *; omega))))); done)))); rfl; conv => whnf)))
  refine callP_fn ?_
  refine s8 (s := s) hB (hs.ext e1) fun H2 u e2 => ?_
  have q1 := e2.at' _ _ a1
  have q2 := e2.at' _ _ a2
  have q3 := e2.at' _ _ a3
  cases u with
  | true =>
    (conv => whnf)
    refine callP_fn ?_
    refine look _ _ e2 ?_
    (conv => whnf)
    exact h1 _ (e1.trans e2)
  | false =>
  (conv => whnf)
  (repeat (first | (refine numP.mk (by unfold inI; first | omega | (dsimp only at *; omega)) ?_; conv => whnf) | ((first | apply loadP_get | apply loadP_agg' | apply storeP_getR); (focus ((repeat' (first | assumption | exact At.self | (refine At.setSelf (by (first | omega | (simp only [Heap.size_push, Heap.size_set]; omega)))) | apply At.push | (refine At.setNe ?_ (by (first | omega | (simp only [Heap.size_push, Heap.size_set]; omega)))) | (refine Ext.at' (by assumption) _ _ ?_))); done)); rfl; conv => whnf) | ((first | apply loadP_cells0 | apply loadP_cellsA | apply idxP_sl); (first | assumption | ((first | refine Cells.ext (by assumption) ?_ | refine SlP.ext (by assumption) ?_); (focus ((repeat' (first | assumption | exact Ext.refl _ | apply Ext.push | (refine Ext.set ?_ (by first | assumption | exact Nat.le_refl _ | exact Ext.size (by assumption) | omega | (simp only [Heap.size_push, Heap.size_set] at *; omega))))); done)))); (first | rfl | assumption); (try intro _ _ _); conv => whnf) | (apply loadP_cells; (first | assumption | ((first | refine Cells.ext (by assumption) ?_ | refine SlP.ext (by assumption) ?_); (focus ((repeat' (first | assumption | exact Ext.refl _ | apply Ext.push | (refine Ext.set ?_ (by first | assumption | exact Nat.le_refl _ | exact Ext.size (by assumption) | omega | (simp only [Heap.size_push, Heap.size_set] at *; omega))))); done)))); rfl; conv => whnf)))
  refine callP_fn ?_
  refine s9 hB fun H3 u e3 => ?_
  have e13 := e2.trans e3
  have q1 := e3.at' _ _ q1
  have q2 := e3.at' _ _ q2
  have q3 := e3.at' _ _ q3
  cases u with
  | true =>
    (conv => whnf)
    refine callP_fn ?_
    refine look _ _ e13 ?_
    (conv => whnf)
    exact h1 _ (e1.trans e13)
  | false =>
  (conv => whnf)
  (repeat (first | (refine numP.mk (by unfold inI; first | omega | (dsimp only at *; omega)) ?_; conv => whnf) | ((first | apply loadP_get | apply loadP_agg' | apply storeP_getR); (focus ((repeat' (first | assumption | exact At.self | (refine At.setSelf (by (first | omega | (simp only [Heap.size_push, Heap.size_set]; omega)))) | apply At.push | (refine At.setNe ?_ (by (first | omega | (simp only [Heap.size_push, Heap.size_set]; omega)))) | (refine Ext.at' (by assumption) _ _ ?_))); done)); rfl; conv => whnf) | ((first | apply loadP_cells0 | apply loadP_cellsA | apply idxP_sl); (first | assumption | ((first | refine Cells.ext (by assumption) ?_ | refine SlP.ext (by assumption) ?_); (focus ((repeat' (first | assumption | exact Ext.refl _ | apply Ext.push | (refine Ext.set ?_ (by first | assumption | exact Nat.le_refl _ | exact Ext.size (by assumption) | omega | (simp only [Heap.size_push, Heap.size_set] at *; omega))))); done)))); (first | rfl | assumption); (try intro _ _ _); conv => whnf) | (apply loadP_cells; (first | assumption | ((first | refine Cells.ext (by assumption) ?_ | refine SlP.ext (by assumption) ?_); (focus ((repeat' (first | assumption | exact Ext.refl _ | apply Ext.push | (refine Ext.set ?_ (by first | assumption | exact Nat.le_refl _ | exact Ext.size (by assumption) | omega | (simp only [Heap.size_push, Heap.size_set] at *; omega))))); done)))); rfl; conv => whnf)))
  refine callP_fn ?_
  refine s10 (s := s) hB (hs.ext (e1.trans e13)) (hl.ext (e1.trans e13)) (fun H4 e4 ok => ?_) (fun H4 er e4 hne => ?_)
  rotate_left
  · have e14 := e13.trans e4
    (conv => whnf)
    refine ifP.mk (fun _ => ?_) (fun h => absurd hne h)
    (conv => whnf)
    refine callP_fn ?_
    refine look _ _ e14 ?_
    (conv => whnf)
    exact h1 _ (e1.trans e14)
  have e14 := e13.trans e4
  have q1 := e4.at' _ _ q1
  have q2 := e4.at' _ _ q2
  have q3 := e4.at' _ _ q3
  have done : ∀ H', Ext H4 H' → R (.bool true) H' := fun H' e => h1 _ (e1.trans (e14.trans e))
  have look4 : ∀ (H' : Heap) (K : Value → Heap → Prop), Ext H4 H' → K (.bool true) H' → ACall AP B (.fn 12) [] H' K := fun H' K e k => look H' K (e14.trans e) k
  (conv => whnf)
  refine ifP.mk (fun h => absurd rfl h) (fun _ => ?_)
  (conv => whnf)
  refine ifP.mk (fun _ => ?_) (fun hn0 => ?_)
  · (conv => whnf)
    refine callP_fn ?_
    refine look4 _ _ (Ext.refl _) ?_
    (conv => whnf)
    exact done _ (Ext.refl _)
  (conv => whnf)
  (repeat (first | (refine numP.mk (by unfold inI; first | omega | (dsimp only at *; omega)) ?_; conv => whnf) | ((first | apply loadP_get | apply loadP_agg' | apply storeP_getR); (focus ((repeat' (first | assumption | exact At.self | (refine At.setSelf (by (first | omega | (simp only [Heap.size_push, Heap.size_set]; omega)))) | apply At.push | (refine At.setNe ?_ (by (first | omega | (simp only [Heap.size_push, Heap.size_set]; omega)))) | (refine Ext.at' (by assumption) _ _ ?_))); done)); rfl; conv => whnf) | ((first | apply loadP_cells0 | apply loadP_cellsA | apply idxP_sl); (first | assumption | ((first | refine Cells.ext (by assumption) ?_ | refine SlP.ext (by assumption) ?_); (focus ((repeat' (first | assumption | exact Ext.refl _ | apply Ext.push | (refine Ext.set ?_ (by first | assumption | exact Nat.le_refl _ | exact Ext.size (by assumption) | omega | (simp only [Heap.size_push, Heap.size_set] at *; omega))))); done)))); (first | rfl | assumption); (try intro _ _ _); conv => whnf) | (apply loadP_cells; (first | assumption | ((first | refine Cells.ext (by assumption) ?_ | refine SlP.ext (by assumption) ?_); (focus ((repeat' (first | assumption | exact Ext.refl _ | apply Ext.push | (refine Ext.set ?_ (by first | assumption | exact Nat.le_refl _ | exact Ext.size (by assumption) | omega | (simp only [Heap.size_push, Heap.size_set] at *; omega))))); done)))); rfl; conv => whnf)))
  refine ifP.mk (fun _ => ?_) (fun hnp => ?_)
  · (conv => whnf)
    refine callP_fn ?_
    refine look4 _ _ (Ext.refl _) ?_
    (conv => whnf)
    exact done _ (Ext.refl _)
  (conv => whnf)
  (repeat (first | (refine numP.mk (by unfold inI; first | omega | (dsimp only at *; omega)) ?_; conv => whnf) | ((first | apply loadP_get | apply loadP_agg' | apply storeP_getR); (focus ((repeat' (first | assumption | exact At.self | (refine At.setSelf (by (first | omega | (simp only [Heap.size_push, Heap.size_set]; omega)))) | apply At.push | (refine At.setNe ?_ (by (first | omega | (simp only [Heap.size_push, Heap.size_set]; omega)))) | (refine Ext.at' (by assumption) _ _ ?_))); done)); rfl; conv => whnf) | ((first | apply loadP_cells0 | apply loadP_cellsA | apply idxP_sl); (first | assumption | ((first | refine Cells.ext (by assumption) ?_ | refine SlP.ext (by assumption) ?_); (focus ((repeat' (first | assumption | exact Ext.refl _ | apply Ext.push | (refine Ext.set ?_ (by first | assumption | exact Nat.le_refl _ | exact Ext.size (by assumption) | omega | (simp only [Heap.size_push, Heap.size_set] at *; omega))))); done)))); (first | rfl | assumption); (try intro _ _ _); conv => whnf) | (apply loadP_cells; (first | assumption | ((first | refine Cells.ext (by assumption) ?_ | refine SlP.ext (by assumption) ?_); (focus ((repeat' (first | assumption | exact Ext.refl _ | apply Ext.push | (refine Ext.set ?_ (by first | assumption | exact Nat.le_refl _ | exact Ext.size (by assumption) | omega | (simp only [Heap.size_push, Heap.size_set] at *; omega))))); done)))); rfl; conv => whnf)))
  refine callP_fn ?_
  have hp4 := hp.ext (e1.trans e14)
  refine s11 hB hp4 (fun pok => ?_) (fun er hne => ?_)
  rotate_left
  · (conv => whnf)
    refine ifP.mk (fun _ => ?_) (fun h => absurd hne h)
    (conv => whnf)
    refine callP_fn ?_
    refine look4 _ _ (Ext.refl _) ?_
    (conv => whnf)
    exact done _ (Ext.refl _)
  (conv => whnf)
  refine ifP.mk (fun h => absurd rfl h) (fun _ => ?_)
  (conv => whnf)
  (repeat (first | (refine numP.mk (by unfold inI; first | omega | (dsimp only at *; omega)) ?_; conv => whnf) | ((first | apply loadP_get | apply loadP_agg' | apply storeP_getR); (focus ((repeat' (first | assumption | exact At.self | (refine At.setSelf (by (first | omega | (simp only [Heap.size_push, Heap.size_set]; omega)))) | apply At.push | (refine At.setNe ?_ (by (first | omega | (simp only [Heap.size_push, Heap.size_set]; omega)))) | (refine Ext.at' (by assumption) _ _ ?_))); done)); rfl; conv => whnf) | ((first | apply loadP_cells0 | apply loadP_cellsA | apply idxP_sl); (first | assumption | ((first | refine Cells.ext (by assumption) ?_ | refine SlP.ext (by assumption) ?_); (focus ((repeat' (first | assumption | exact Ext.refl _ | apply Ext.push | (refine Ext.set ?_ (by first | assumption | exact Nat.le_refl _ | exact Ext.size (by assumption) | omega | (simp only [Heap.size_push, Heap.size_set] at *; omega))))); done)))); (first | rfl | assumption); (try intro _ _ _); conv => whnf) | (apply loadP_cells; (first | assumption | ((first | refine Cells.ext (by assumption) ?_ | refine SlP.ext (by assumption) ?_); (focus ((repeat' (first | assumption | exact Ext.refl _ | apply Ext.push | (refine Ext.set ?_ (by first | assumption | exact Nat.le_refl _ | exact Ext.size (by assumption) | omega | (simp only [Heap.size_push, Heap.size_set] at *; omega))))); done)))); rfl; conv => whnf)))
  refine ifP.mk (fun _ => ?_) (fun hev1 => ?_)
  · (conv => whnf)
    refine callP_fn ?_
    refine look4 _ _ (Ext.refl _) ?_
    (conv => whnf)
    exact done _ (Ext.refl _)
  (conv => whnf)
  (repeat (first | (refine numP.mk (by unfold inI; first | omega | (dsimp only at *; omega)) ?_; conv => whnf) | ((first | apply loadP_get | apply loadP_agg' | apply storeP_getR); (focus ((repeat' (first | assumption | exact At.self | (refine At.setSelf (by (first | omega | (simp only [Heap.size_push, Heap.size_set]; omega)))) | apply At.push | (refine At.setNe ?_ (by (first | omega | (simp only [Heap.size_push, Heap.size_set]; omega)))) | (refine Ext.at' (by assumption) _ _ ?_))); done)); rfl; conv => whnf) | ((first | apply loadP_cells0 | apply loadP_cellsA | apply idxP_sl); (first | assumption | ((first | refine Cells.ext (by assumption) ?_ | refine SlP.ext (by assumption) ?_); (focus ((repeat' (first | assumption | exact Ext.refl _ | apply Ext.push | (refine Ext.set ?_ (by first | assumption | exact Nat.le_refl _ | exact Ext.size (by assumption) | omega | (simp only [Heap.size_push, Heap.size_set] at *; omega))))); done)))); (first | rfl | assumption); (try intro _ _ _); conv => whnf) | (apply loadP_cells; (first | assumption | ((first | refine Cells.ext (by assumption) ?_ | refine SlP.ext (by assumption) ?_); (focus ((repeat' (first | assumption | exact Ext.refl _ | apply Ext.push | (refine Ext.set ?_ (by first | assumption | exact Nat.le_refl _ | exact Ext.size (by assumption) | omega | (simp only [Heap.size_push, Heap.size_set] at *; omega))))); done)))); rfl; conv => whnf)))
  refine ifP.mk (fun _ => ?_) (fun hev2 => ?_)
  · (conv => whnf)
    refine callP_fn ?_
    refine look4 _ _ (Ext.refl _) ?_
    (conv => whnf)
    exact done _ (Ext.refl _)
  have hev : 1 ≤ every ∧ every ≤ 100 := by
    have a : ¬ every < 1 := hev1
    have b : ¬ 100 < every := hev2
    omega
  have hn1 : s.n ≠ 0 := by intro h; exact hn0 (by rw [h]; rfl)
  have htn : (s.n : Int).toNat = s.n := Int.toNat_natCast _
  have hsn := ok.stn.len
  clear hH look
  (conv => whnf)
  (repeat (first | (refine numP.mk (by unfold inI; first | omega | (dsimp only at *; omega)) ?_; conv => whnf) | ((first | apply loadP_get | apply loadP_agg' | apply storeP_getR); (focus ((repeat' (first | assumption | exact At.self | (refine At.setSelf (by (first | omega | (simp only [Heap.size_push, Heap.size_set]; omega)))) | apply At.push | (refine At.setNe ?_ (by (first | omega | (simp only [Heap.size_push, Heap.size_set]; omega)))) | (refine Ext.at' (by assumption) _ _ ?_))); done)); rfl; conv => whnf) | ((first | apply loadP_cells0 | apply loadP_cellsA | apply idxP_sl); (first | assumption | ((first | refine Cells.ext (by assumption) ?_ | refine SlP.ext (by assumption) ?_); (focus ((repeat' (first | assumption | exact Ext.refl _ | apply Ext.push | (refine Ext.set ?_ (by first | assumption | exact Nat.le_refl _ | exact Ext.size (by assumption) | omega | (simp only [Heap.size_push, Heap.size_set] at *; omega))))); done)))); (first | rfl | assumption); (try intro _ _ _); conv => whnf) | (apply loadP_cells; (first | assumption | ((first | refine Cells.ext (by assumption) ?_ | refine SlP.ext (by assumption) ?_); (focus ((repeat' (first | assumption | exact Ext.refl _ | apply Ext.push | (refine Ext.set ?_ (by first | assumption | exact Nat.le_refl _ | exact Ext.size (by assumption) | omega | (simp only [Heap.size_push, Heap.size_set] at *; omega))))); done)))); rfl; conv => whnf)))
  refine callP_fn ?_
  refine s13 hB hp4 pok fun H5 p5 c5 e5 an => ?_
  have r1 := e5.at' _ _ q1
  have r2 := e5.at' _ _ q2
  have r3 := e5.at' _ _ q3
  have hqs := pagersL_length tick pages (List.replicate (s.n : Int).toNat q0)
  rw [List.length_replicate] at hqs
  have hqok := pagersL_ok (T := tick) pages (List.replicate (s.n : Int).toNat q0) (mem_pg pok) (q0s_ok _)
  have hlaw : ∀ w : Int, 0 ≤ w → ∀ q, (pagersL tick pages (List.replicate (s.n : Int).toNat q0))[w.toNat]? = some q → q.answer = 1 → lastK tick w pages = 2 := by
    intro w hw q hq hq1
    refine law4 hw pages _ 0 (srt_of _ pok.sorted) (mem_pg pok) (q0s_ok _) (by simp) ?_ q hq hq1
    intro q' hq' h1'
    rw [List.eq_of_mem_replicate (List.mem_of_getElem? hq')] at h1'
    simp [q0] at h1'
  (conv => whnf)
  (repeat (first | (refine numP.mk (by unfold inI; first | omega | (dsimp only at *; omega)) ?_; conv => whnf) | ((first | apply loadP_get | apply loadP_agg' | apply storeP_getR); (focus ((repeat' (first | assumption | exact At.self | (refine At.setSelf (by (first | omega | (simp only [Heap.size_push, Heap.size_set]; omega)))) | apply At.push | (refine At.setNe ?_ (by (first | omega | (simp only [Heap.size_push, Heap.size_set]; omega)))) | (refine Ext.at' (by assumption) _ _ ?_))); done)); rfl; conv => whnf) | ((first | apply loadP_cells0 | apply loadP_cellsA | apply idxP_sl); (first | assumption | ((first | refine Cells.ext (by assumption) ?_ | refine SlP.ext (by assumption) ?_); (focus ((repeat' (first | assumption | exact Ext.refl _ | apply Ext.push | (refine Ext.set ?_ (by first | assumption | exact Nat.le_refl _ | exact Ext.size (by assumption) | omega | (simp only [Heap.size_push, Heap.size_set] at *; omega))))); done)))); (first | rfl | assumption); (try intro _ _ _); conv => whnf) | (apply loadP_cells; (first | assumption | ((first | refine Cells.ext (by assumption) ?_ | refine SlP.ext (by assumption) ?_); (focus ((repeat' (first | assumption | exact Ext.refl _ | apply Ext.push | (refine Ext.set ?_ (by first | assumption | exact Nat.le_refl _ | exact Ext.size (by assumption) | omega | (simp only [Heap.size_push, Heap.size_set] at *; omega))))); done)))); rfl; conv => whnf)))
  refine callP_fn ?_
  refine s14 hB (hp4.ext e5) pok hev (fun i q hq => (hqok q (List.mem_of_getElem? hq)).last) fun H6 p6 m6 c6 e6 ag => ?_
  have an6 := an.ext e6
  unfold ansL at an6
  generalize hQ : pagersL tick pages (List.replicate (s.n : Int).toNat q0) = Q at hqs hqok hlaw ag an6
  have r1 := e6.at' _ _ r1
  have r2 := e6.at' _ _ r2
  have r3 := e6.at' _ _ r3
  have e46 := e5.trans e6
  have r26 := r2
  have r36 := r3
  have hm6 : m6 ≤ 10 := by
    have h1 := ag.len
    have h2 := againL_len tick every Q 0
    omega
  (conv => whnf)
  refine ifP.mk (fun h => absurd rfl h) (fun _ => ?_)
  (conv => whnf)
  refine ifP.mk (fun h => absurd rfl h) (fun _ => ?_)
  (conv => whnf)
  refine ifP.mk (fun h => absurd (by rw [htn]) h) (fun _ => ?_)
  (conv => whnf)
  (repeat (first | (refine numP.mk (by unfold inI; first | omega | (dsimp only at *; omega)) ?_; conv => whnf) | ((first | apply loadP_get | apply loadP_agg' | apply storeP_getR); (focus ((repeat' (first | assumption | exact At.self | (refine At.setSelf (by (first | omega | (simp only [Heap.size_push, Heap.size_set]; omega)))) | apply At.push | (refine At.setNe ?_ (by (first | omega | (simp only [Heap.size_push, Heap.size_set]; omega)))) | (refine Ext.at' (by assumption) _ _ ?_))); done)); rfl; conv => whnf) | ((first | apply loadP_cells0 | apply loadP_cellsA | apply idxP_sl); (first | assumption | ((first | refine Cells.ext (by assumption) ?_ | refine SlP.ext (by assumption) ?_); (focus ((repeat' (first | assumption | exact Ext.refl _ | apply Ext.push | (refine Ext.set ?_ (by first | assumption | exact Nat.le_refl _ | exact Ext.size (by assumption) | omega | (simp only [Heap.size_push, Heap.size_set] at *; omega))))); done)))); (first | rfl | assumption); (try intro _ _ _); conv => whnf) | (apply loadP_cells; (first | assumption | ((first | refine Cells.ext (by assumption) ?_ | refine SlP.ext (by assumption) ?_); (focus ((repeat' (first | assumption | exact Ext.refl _ | apply Ext.push | (refine Ext.set ?_ (by first | assumption | exact Nat.le_refl _ | exact Ext.size (by assumption) | omega | (simp only [Heap.size_push, Heap.size_set] at *; omega))))); done)))); rfl; conv => whnf)))
  refine callP_fn ?_
  refine s15 (s := s) hB (hs.ext (e1.trans (e14.trans e46))) ok.stn fun H7 p7 c7 l7 e7 mine7 len7 cop7 => ?_
  obtain ⟨b7, rfl, rfl, hb7, a7⟩ := mine7.inv hn1
  have r2 := e7.at' _ _ r2
  have r3 := e7.at' _ _ r3
  have lt7 := a7.lt
  have ltr2 := r2.lt
  have ltr3 := r3.lt
  (conv => whnf)
  (repeat (first | (refine numP.mk (by unfold inI; first | omega | (dsimp only at *; omega)) ?_; conv => whnf) | ((first | apply loadP_get | apply loadP_agg' | apply storeP_getR); (focus ((repeat' (first | assumption | exact At.self | (refine At.setSelf (by (first | omega | (simp only [Heap.size_push, Heap.size_set]; omega)))) | apply At.push | (refine At.setNe ?_ (by (first | omega | (simp only [Heap.size_push, Heap.size_set]; omega)))) | (refine Ext.at' (by assumption) _ _ ?_))); done)); rfl; conv => whnf) | ((first | apply loadP_cells0 | apply loadP_cellsA | apply idxP_sl); (first | assumption | ((first | refine Cells.ext (by assumption) ?_ | refine SlP.ext (by assumption) ?_); (focus ((repeat' (first | assumption | exact Ext.refl _ | apply Ext.push | (refine Ext.set ?_ (by first | assumption | exact Nat.le_refl _ | exact Ext.size (by assumption) | omega | (simp only [Heap.size_push, Heap.size_set] at *; omega))))); done)))); (first | rfl | assumption); (try intro _ _ _); conv => whnf) | (apply loadP_cells; (first | assumption | ((first | refine Cells.ext (by assumption) ?_ | refine SlP.ext (by assumption) ?_); (focus ((repeat' (first | assumption | exact Ext.refl _ | apply Ext.push | (refine Ext.set ?_ (by first | assumption | exact Nat.le_refl _ | exact Ext.size (by assumption) | omega | (simp only [Heap.size_push, Heap.size_set] at *; omega))))); done)))); rfl; conv => whnf)))
  generalize hH8 : (H7.push _).set _ _ = H8
  have e78 : Ext H7 H8 := by rw [← hH8]; exact (by (repeat' (first | assumption | exact Ext.refl _ | apply Ext.push | (refine Ext.set ?_ (by first | assumption | exact Nat.le_refl _ | exact Ext.size (by assumption) | omega | (simp only [Heap.size_push, Heap.size_set] at *; omega))))))
  have aq : At H8 H7.size (.cells false 0 [.slice (some ⟨b7, 0, none⟩) s.n openCap, .int .i64 s.window, .int .i64 s.duty]) := by rw [← hH8]; exact At.setSelf (by rw [Heap.size_push]; omega)
  clear hH8
  have hans : ∀ (k : Nat) v, (Q.map (·.answer))[k]? = some v → ∃ q, Q[k]? = some q ∧ q.answer = v := by
    intro k v hk
    rw [List.getElem?_map] at hk
    cases hq : Q[k]? with
    | none => rw [hq] at hk; cases hk
    | some q => rw [hq] at hk; exact ⟨q, rfl, by simpa using hk⟩
  refine loop_pins (CallMono.acall hB) (σ := Nat × List Hd) (fun t => [(4, .pointer (some ⟨H.size + 1, 0, none⟩)), (5, .pointer (some ⟨H.size + 2, 0, none⟩)), (7, .int .i64 (s.n : Int)), (8, .slice p5 (s.n : Int).toNat c5), (10, .slice p6 m6 c6), (12, .pointer (some ⟨H7.size, 0, none⟩)), (13, .int .i64 (t.1 : Int))])
    (fun t H' => Ext H6 H' ∧ t.1 ≤ s.n ∧ At H' H7.size (.cells false 0 [.slice (some ⟨b7, 0, none⟩) s.n openCap, .int .i64 s.window, .int .i64 s.duty]) ∧ At H' b7 (.cells false 5 (t.2.flatMap encH)) ∧ t.2.length = s.n ∧ ∀ (k : Nat) h', t.2[k]? = some h' → LogAt H' h' ∧ ∃ h7 q, l7[k]? = some h7 ∧ Q[k]? = some q ∧ h' = { h7 with answer := if k < t.1 then q.answer else h7.answer }) (fun t => s.n - t.1) (0, l7) ?_ ?_ ?_
  · exact ⟨rfl, rfl, rfl, rfl, rfl, rfl, rfl, trivial⟩
  · refine ⟨e7.trans e78, by simp, aq, e78.at' _ _ a7, len7, fun k h' hk => ⟨((cop7 k h' hk).2).keep fun b C hb => e78.at' _ _ hb, h', Q[k]'(by rw [hqs, htn, ← len7]; exact (List.getElem?_eq_some_iff.1 hk).1), hk, by simp, by simp⟩⟩
  rintro ⟨i, l8⟩ E H9 ⟨e9, k1, k2, k3, k4, k5⟩
  dsimp only at k1 k3 k4 k5
  have ltq := k2.lt
  have ltb := k3.lt
  have nqb : H7.size ≠ b7 := k2.ne k3 (by simp)
  have s2 := e9.at' _ _ r26
  have s3 := e9.at' _ _ r36
  have an9 := an6.ext e9
  have ag9 := ag.ext e9
  (conv => whnf)
  refine ifP.mk (fun hlt => ?_) (fun hge => ?_)
  · have hlt' : i < s.n := by have : (i : Int) < (s.n : Int) := hlt; omega
    obtain ⟨q, hq⟩ : ∃ q, Q[i]? = some q := ⟨Q[i]'(by rw [hqs, htn]; exact hlt'), by simp⟩
    have hqa : (Q.map (·.answer))[i]? = some q.answer := by rw [List.getElem?_map, hq]; rfl
    obtain ⟨h8, hh8⟩ : ∃ h8, l8[i]? = some h8 := ⟨l8[i]'(by rw [k4]; exact hlt'), by simp⟩
    (conv => whnf)
    refine loadP_get k2 rfl ?_
    (conv => whnf)
    refine idxP_sl an9 hqa fun b o hc => ?_
    (conv => whnf)
    (repeat (first | (refine numP.mk (by unfold inI; first | omega | (dsimp only at *; omega)) ?_; conv => whnf) | ((first | apply loadP_get | apply loadP_agg' | apply storeP_getR); (focus ((repeat' (first | assumption | exact At.self | (refine At.setSelf (by (first | omega | (simp only [Heap.size_push, Heap.size_set]; omega)))) | apply At.push | (refine At.setNe ?_ (by (first | omega | (simp only [Heap.size_push, Heap.size_set]; omega)))) | (refine Ext.at' (by assumption) _ _ ?_))); done)); rfl; conv => whnf) | ((first | apply loadP_cells0 | apply loadP_cellsA | apply idxP_sl); (first | assumption | ((first | refine Cells.ext (by assumption) ?_ | refine SlP.ext (by assumption) ?_); (focus ((repeat' (first | assumption | exact Ext.refl _ | apply Ext.push | (refine Ext.set ?_ (by first | assumption | exact Nat.le_refl _ | exact Ext.size (by assumption) | omega | (simp only [Heap.size_push, Heap.size_set] at *; omega))))); done)))); (first | rfl | assumption); (try intro _ _ _); conv => whnf) | (apply loadP_cells; (first | assumption | ((first | refine Cells.ext (by assumption) ?_ | refine SlP.ext (by assumption) ?_); (focus ((repeat' (first | assumption | exact Ext.refl _ | apply Ext.push | (refine Ext.set ?_ (by first | assumption | exact Nat.le_refl _ | exact Ext.size (by assumption) | omega | (simp only [Heap.size_push, Heap.size_set] at *; omega))))); done)))); rfl; conv => whnf)))
    refine idxP_slice (by omega) (by omega) ?_
    (conv => whnf)
    refine storeP_elem (k := i) (f := 4) (x := h8) (y := { h8 with answer := q.answer }) k3 (fun _ _ => rfl) hh8 (by omega) rfl (by decide) rfl rfl ?_
    (conv => whnf)
    generalize hH10 : Heap.set _ _ _ = H10
    have k10 : ∀ d y, At H9 d y → d ≠ b7 → At H10 d y := by intro d y hd hne; rw [← hH10]; exact hd.setNe hne
    have e10 : Ext H6 H10 := by rw [← hH10]; exact Ext.set e9 hb7
    have b10 : At H10 b7 (.cells false 5 ((l8.set i { h8 with answer := q.answer }).flatMap encH)) := by rw [← hH10]; exact At.setSelf ltb
    have q10 := k10 _ _ k2 nqb
    clear hH10
    have next : Ext H6 H10 ∧ i + 1 ≤ s.n ∧ At H10 H7.size (.cells false 0 [.slice (some ⟨b7, 0, none⟩) s.n openCap, .int .i64 s.window, .int .i64 s.duty]) ∧ At H10 b7 (.cells false 5 ((l8.set i { h8 with answer := q.answer }).flatMap encH)) ∧ (l8.set i { h8 with answer := q.answer }).length = s.n ∧ ∀ (k : Nat) h', (l8.set i { h8 with answer := q.answer })[k]? = some h' → LogAt H10 h' ∧ ∃ h7 q, l7[k]? = some h7 ∧ Q[k]? = some q ∧ h' = { h7 with answer := if k < i + 1 then q.answer else h7.answer } := by
      refine ⟨e10, hlt', q10, b10, by simp [k4], fun k h' hk => ?_⟩
      have lk : ∀ h', LogAt H9 h' → LogAt H10 h' := fun h' hl => hl.keep fun b C hb => k10 _ _ hb (hb.ne k3 (by simp))
      by_cases hki : k = i
      · subst hki
        rw [List.getElem?_set_self (by rw [k4]; exact hlt'), Option.some.injEq] at hk
        subst hk
        obtain ⟨g1, h7, q', g2, g3, g4⟩ := k5 k h8 hh8
        rw [hq] at g3; cases g3
        refine ⟨lk _ ?_, h7, q, g2, hq, ?_⟩
        · rcases g1 with ⟨v1, v2, v3⟩ | ⟨b, v1, v2, v3⟩
          · exact .inl ⟨v1, v2, v3⟩
          · exact .inr ⟨b, v1, v2, v3⟩
        · rw [g4]; simp
      · rw [List.getElem?_set_ne (Ne.symm hki)] at hk
        obtain ⟨g1, h7, q', g2, g3, g4⟩ := k5 k h' hk
        refine ⟨lk _ g1, h7, q', g2, g3, ?_⟩
        rw [g4]
        have : (k < i + 1) = (k < i) := by apply propext; omega
        simp only [this]
    refine callP_fn ?_
    refine s16 hB (ag.ext e10) (by omega) (fun hmem => ?_) (fun _ => ?_)
    · (conv => whnf)
      refine idxP_sl (an6.ext e10) hqa fun b o hc => ?_
      (conv => whnf)
      (repeat (first | (refine numP.mk (by unfold inI; first | omega | (dsimp only at *; omega)) ?_; conv => whnf) | ((first | apply loadP_get | apply loadP_agg' | apply storeP_getR); (focus ((repeat' (first | assumption | exact At.self | (refine At.setSelf (by (first | omega | (simp only [Heap.size_push, Heap.size_set]; omega)))) | apply At.push | (refine At.setNe ?_ (by (first | omega | (simp only [Heap.size_push, Heap.size_set]; omega)))) | (refine Ext.at' (by assumption) _ _ ?_))); done)); rfl; conv => whnf) | ((first | apply loadP_cells0 | apply loadP_cellsA | apply idxP_sl); (first | assumption | ((first | refine Cells.ext (by assumption) ?_ | refine SlP.ext (by assumption) ?_); (focus ((repeat' (first | assumption | exact Ext.refl _ | apply Ext.push | (refine Ext.set ?_ (by first | assumption | exact Nat.le_refl _ | exact Ext.size (by assumption) | omega | (simp only [Heap.size_push, Heap.size_set] at *; omega))))); done)))); (first | rfl | assumption); (try intro _ _ _); conv => whnf) | (apply loadP_cells; (first | assumption | ((first | refine Cells.ext (by assumption) ?_ | refine SlP.ext (by assumption) ?_); (focus ((repeat' (first | assumption | exact Ext.refl _ | apply Ext.push | (refine Ext.set ?_ (by first | assumption | exact Nat.le_refl _ | exact Ext.size (by assumption) | omega | (simp only [Heap.size_push, Heap.size_set] at *; omega))))); done)))); rfl; conv => whnf)))
      refine ifP.mk (fun hne => ?_) (fun _ => ?_)
      · obtain ⟨j, q', j1, j2, j3⟩ := again_zero Q 0 _ hmem
        have : j = i := by omega
        subst this
        rw [hq] at j2; cases j2
        exact absurd j3 hne
      · (conv => whnf)
        (repeat (first | (refine numP.mk (by unfold inI; first | omega | (dsimp only at *; omega)) ?_; conv => whnf) | ((first | apply loadP_get | apply loadP_agg' | apply storeP_getR); (focus ((repeat' (first | assumption | exact At.self | (refine At.setSelf (by (first | omega | (simp only [Heap.size_push, Heap.size_set]; omega)))) | apply At.push | (refine At.setNe ?_ (by (first | omega | (simp only [Heap.size_push, Heap.size_set]; omega)))) | (refine Ext.at' (by assumption) _ _ ?_))); done)); rfl; conv => whnf) | ((first | apply loadP_cells0 | apply loadP_cellsA | apply idxP_sl); (first | assumption | ((first | refine Cells.ext (by assumption) ?_ | refine SlP.ext (by assumption) ?_); (focus ((repeat' (first | assumption | exact Ext.refl _ | apply Ext.push | (refine Ext.set ?_ (by first | assumption | exact Nat.le_refl _ | exact Ext.size (by assumption) | omega | (simp only [Heap.size_push, Heap.size_set] at *; omega))))); done)))); (first | rfl | assumption); (try intro _ _ _); conv => whnf) | (apply loadP_cells; (first | assumption | ((first | refine Cells.ext (by assumption) ?_ | refine SlP.ext (by assumption) ?_); (focus ((repeat' (first | assumption | exact Ext.refl _ | apply Ext.push | (refine Ext.set ?_ (by first | assumption | exact Nat.le_refl _ | exact Ext.size (by assumption) | omega | (simp only [Heap.size_push, Heap.size_set] at *; omega))))); done)))); rfl; conv => whnf)))
        exact ⟨(i + 1, l8.set i { h8 with answer := q.answer }), ⟨rfl, rfl, rfl, rfl, rfl, rfl, rfl, trivial⟩, next, by show s.n - (i + 1) < s.n - i; omega⟩
    · (conv => whnf)
      (repeat (first | (refine numP.mk (by unfold inI; first | omega | (dsimp only at *; omega)) ?_; conv => whnf) | ((first | apply loadP_get | apply loadP_agg' | apply storeP_getR); (focus ((repeat' (first | assumption | exact At.self | (refine At.setSelf (by (first | omega | (simp only [Heap.size_push, Heap.size_set]; omega)))) | apply At.push | (refine At.setNe ?_ (by (first | omega | (simp only [Heap.size_push, Heap.size_set]; omega)))) | (refine Ext.at' (by assumption) _ _ ?_))); done)); rfl; conv => whnf) | ((first | apply loadP_cells0 | apply loadP_cellsA | apply idxP_sl); (first | assumption | ((first | refine Cells.ext (by assumption) ?_ | refine SlP.ext (by assumption) ?_); (focus ((repeat' (first | assumption | exact Ext.refl _ | apply Ext.push | (refine Ext.set ?_ (by first | assumption | exact Nat.le_refl _ | exact Ext.size (by assumption) | omega | (simp only [Heap.size_push, Heap.size_set] at *; omega))))); done)))); (first | rfl | assumption); (try intro _ _ _); conv => whnf) | (apply loadP_cells; (first | assumption | ((first | refine Cells.ext (by assumption) ?_ | refine SlP.ext (by assumption) ?_); (focus ((repeat' (first | assumption | exact Ext.refl _ | apply Ext.push | (refine Ext.set ?_ (by first | assumption | exact Nat.le_refl _ | exact Ext.size (by assumption) | omega | (simp only [Heap.size_push, Heap.size_set] at *; omega))))); done)))); rfl; conv => whnf)))
      exact ⟨(i + 1, l8.set i { h8 with answer := q.answer }), ⟨rfl, rfl, rfl, rfl, rfl, rfl, rfl, trivial⟩, next, by show s.n - (i + 1) < s.n - i; omega⟩
  have hi : i = s.n := by have : ¬ (i : Int) < (s.n : Int) := hge; omega
  subst hi
  -- the station with the answers
  have hall : ∀ (k : Nat) h', l8[k]? = some h' → LogAt H9 h' ∧ ∃ h q, s.hands[k]? = some h ∧ Q[k]? = some q ∧ h'.answer = q.answer ∧ HdOk h' := by
    intro k h' hk
    obtain ⟨g1, h7, q, g2, g3, g4⟩ := k5 k h' hk
    have hks : k < s.n := by rw [← k4]; exact (List.getElem?_eq_some_iff.1 hk).1
    rw [if_pos hks] at g4
    obtain ⟨⟨h, f1, f2⟩, _⟩ := cop7 k h7 g2
    have ok7 := f2.ok (ok.stn.hands h (List.mem_of_getElem? f1))
    have hqo := (hqok q (List.mem_of_getElem? g3)).answer
    refine ⟨g1, h, q, f1, g3, by rw [g4], ?_⟩
    rw [g4]
    exact ⟨ok7.skills, ok7.away, ok7.len, hqo, ok7.log⟩
  obtain ⟨st, hst⟩ : ∃ st : Stn, st = ⟨some ⟨b7, 0, none⟩, s.n, openCap, s.window, s.duty, l8⟩ := ⟨_, rfl⟩
  have stAt : StnAt H9 st := by
    rw [hst]
    refine ⟨?_, fun h hh => ?_, fun h hh => ?_⟩
    · have := k3.slP (fun _ _ => rfl : ∀ x ∈ l8, (encH x).length = 5)
      rw [k4] at this
      exact this
    · obtain ⟨k, z1, z2⟩ := List.getElem_of_mem hh
      exact (hall k h (by rw [List.getElem?_eq_getElem z1, z2])).1.slP
    · obtain ⟨k, z1, z2⟩ := List.getElem_of_mem hh
      exact (hall k h (by rw [List.getElem?_eq_getElem z1, z2])).1.form
  have stOk : StnOk st := by
    rw [hst]
    refine ⟨ok.stn.len, ok.stn.window, ok.stn.duty, fun h hh => ?_⟩
    obtain ⟨k, z1, z2⟩ := List.getElem_of_mem hh
    obtain ⟨_, _, _, _, _, _, w⟩ := hall k h (by rw [List.getElem?_eq_getElem z1, z2])
    exact w
  have e69 := e9
  have e49 := e46.trans e9
  (conv => whnf)
  refine loadP_agg (vs := encSt st) k2 (Nat.le_of_ble_eq_true rfl) (by rw [hst]; rfl) ?_
  (conv => whnf)
  refine loadP_get s2 rfl ?_
  (conv => whnf)
  refine loadP_get s2 rfl ?_
  (conv => whnf)
  refine loadP_get s2 rfl ?_
  (conv => whnf)
  refine callP_fn ?_
  refine s17 (s := st) hB stAt (hl.ext (e1.trans (e14.trans e49))) ⟨stOk, ok.call, ok.len, ok.seats⟩ (fun H10 t p10 m10 c10 w10 e10 wh hm10 whok => ?_) (fun H10 e10 => ?_)
  rotate_left
  · (conv => whnf)
    refine ifP.mk (fun _ => ?_) (fun h => absurd (by decide) h)
    (conv => whnf)
    refine ifP.mk (fun _ => ?_) (fun h => absurd rfl h)
    (conv => whnf)
    refine callP_fn ?_
    refine look4 _ _ (e49.trans e10) ?_
    (conv => whnf)
    exact done _ (e49.trans e10)
  have x3 := e10.at' _ _ s3
  have e410 := e49.trans e10
  have hp10 := hp4.ext e410
  have ag10 := ag.ext (e69.trans e10)
  have hseat := ok.seats.len
  have whlen := wh.len
  have hwho : ∀ (k : Nat) w, w10[k]? = some w → 0 ≤ w ∧ lastK tick w pages = 2 ∧ ¬ w ∈ againL tick every Q 0 := by
    intro k w hk
    obtain ⟨g0, h', g1, g2⟩ := whok w (List.mem_of_getElem? hk)
    rw [hst] at g1
    obtain ⟨_, h, q, f1, f2, f3, _⟩ := hall _ h' g1
    have hq1 : q.answer = 1 := by rw [← f3]; exact g2
    refine ⟨g0, hlaw w g0 q f2 hq1, fun hmem => ?_⟩
    obtain ⟨j, q', j1, j2, j3⟩ := again_zero Q 0 _ hmem
    have : w.toNat = j := by omega
    rw [this, j2] at f2
    cases f2
    omega
  (conv => whnf)
  refine ifP.mk (fun h => absurd rfl h) (fun _ => ?_)
  (conv => whnf)
  refine loop_pins (CallMono.acall hB) (σ := Nat) (fun t => [(5, .pointer (some ⟨H.size + 2, 0, none⟩)), (10, .slice p6 m6 c6), (15, .slice p10 m10 c10), (17, .int .i64 (t : Int))])
    (fun t H' => H' = H10 ∧ t ≤ m10) (fun t => m10 - t) 0 ?_ ?_ ?_
  · exact ⟨rfl, rfl, rfl, rfl, trivial⟩
  · exact ⟨rfl, by simp⟩
  rintro t E H' ⟨rfl, v1⟩
  (conv => whnf)
  refine ifP.mk (fun hlt => ?_) (fun hge => ?_)
  · have hlt' : t < m10 := by have : (t : Int) < (m10 : Int) := hlt; omega
    obtain ⟨w, hw⟩ : ∃ w, w10[t]? = some w := ⟨w10[t]'(by omega), by simp⟩
    obtain ⟨w0, w1, w2⟩ := hwho t w hw
    (conv => whnf)
    refine loop_pins (CallMono.acall hB) (σ := Nat) (fun k => [(5, .pointer (some ⟨H.size + 2, 0, none⟩)), (10, .slice p6 m6 c6), (15, .slice p10 m10 c10), (17, .int .i64 (t : Int)), (18, .int .i64 ((pages.take k).foldl (stepL tick w) 0)), (19, .int .i64 (k : Int))])
      (fun k H2 => H2 = H' ∧ k ≤ np) (fun k => np - k) 0 ?_ ?_ ?_
    · exact ⟨rfl, rfl, rfl, rfl, rfl, rfl, trivial⟩
    · exact ⟨rfl, by simp⟩
    rintro k E H2 ⟨rfl, v2⟩
    (conv => whnf)
    (repeat (first | (refine numP.mk (by unfold inI; first | omega | (dsimp only at *; omega)) ?_; conv => whnf) | ((first | apply loadP_get | apply loadP_agg' | apply storeP_getR); (focus ((repeat' (first | assumption | exact At.self | (refine At.setSelf (by (first | omega | (simp only [Heap.size_push, Heap.size_set]; omega)))) | apply At.push | (refine At.setNe ?_ (by (first | omega | (simp only [Heap.size_push, Heap.size_set]; omega)))) | (refine Ext.at' (by assumption) _ _ ?_))); done)); rfl; conv => whnf) | ((first | apply loadP_cells0 | apply loadP_cellsA | apply idxP_sl); (first | assumption | ((first | refine Cells.ext (by assumption) ?_ | refine SlP.ext (by assumption) ?_); (focus ((repeat' (first | assumption | exact Ext.refl _ | apply Ext.push | (refine Ext.set ?_ (by first | assumption | exact Nat.le_refl _ | exact Ext.size (by assumption) | omega | (simp only [Heap.size_push, Heap.size_set] at *; omega))))); done)))); (first | rfl | assumption); (try intro _ _ _); conv => whnf) | (apply loadP_cells; (first | assumption | ((first | refine Cells.ext (by assumption) ?_ | refine SlP.ext (by assumption) ?_); (focus ((repeat' (first | assumption | exact Ext.refl _ | apply Ext.push | (refine Ext.set ?_ (by first | assumption | exact Nat.le_refl _ | exact Ext.size (by assumption) | omega | (simp only [Heap.size_push, Heap.size_set] at *; omega))))); done)))); rfl; conv => whnf)))
    refine ifP.mk (fun hlt2 => ?_) (fun hge2 => ?_)
    · have hlt2' : k < np := by have : (k : Int) < (np : Int) := hlt2; omega
      obtain ⟨x, hx⟩ : ∃ x, pages[k]? = some x := ⟨pages[k]'(by omega), by simp⟩
      have hfold : (pages.take (k + 1)).foldl (stepL tick w) 0 = stepL tick w ((pages.take k).foldl (stepL tick w) 0) x := by
        rw [List.take_add_one, hx]; simp
      have go : ∀ v, v = stepL tick w ((pages.take k).foldl (stepL tick w) 0) x → Value.int .i64 v = .int .i64 ((pages.take (k + 1)).foldl (stepL tick w) 0) := by
        intro v hv; rw [hfold, hv]
      (conv => whnf)
      (repeat (first | (refine numP.mk (by unfold inI; first | omega | (dsimp only at *; omega)) ?_; conv => whnf) | ((first | apply loadP_get | apply loadP_agg' | apply storeP_getR); (focus ((repeat' (first | assumption | exact At.self | (refine At.setSelf (by (first | omega | (simp only [Heap.size_push, Heap.size_set]; omega)))) | apply At.push | (refine At.setNe ?_ (by (first | omega | (simp only [Heap.size_push, Heap.size_set]; omega)))) | (refine Ext.at' (by assumption) _ _ ?_))); done)); rfl; conv => whnf) | ((first | apply loadP_cells0 | apply loadP_cellsA | apply idxP_sl); (first | assumption | ((first | refine Cells.ext (by assumption) ?_ | refine SlP.ext (by assumption) ?_); (focus ((repeat' (first | assumption | exact Ext.refl _ | apply Ext.push | (refine Ext.set ?_ (by first | assumption | exact Nat.le_refl _ | exact Ext.size (by assumption) | omega | (simp only [Heap.size_push, Heap.size_set] at *; omega))))); done)))); (first | rfl | assumption); (try intro _ _ _); conv => whnf) | (apply loadP_cells; (first | assumption | ((first | refine Cells.ext (by assumption) ?_ | refine SlP.ext (by assumption) ?_); (focus ((repeat' (first | assumption | exact Ext.refl _ | apply Ext.push | (refine Ext.set ?_ (by first | assumption | exact Nat.le_refl _ | exact Ext.size (by assumption) | omega | (simp only [Heap.size_push, Heap.size_set] at *; omega))))); done)))); rfl; conv => whnf)))
      refine ifP.mk (fun (y1 : x.hand = w) => ?_) (fun (y1 : ¬ x.hand = w) => ?_)
      · (conv => whnf)
        (repeat (first | (refine numP.mk (by unfold inI; first | omega | (dsimp only at *; omega)) ?_; conv => whnf) | ((first | apply loadP_get | apply loadP_agg' | apply storeP_getR); (focus ((repeat' (first | assumption | exact At.self | (refine At.setSelf (by (first | omega | (simp only [Heap.size_push, Heap.size_set]; omega)))) | apply At.push | (refine At.setNe ?_ (by (first | omega | (simp only [Heap.size_push, Heap.size_set]; omega)))) | (refine Ext.at' (by assumption) _ _ ?_))); done)); rfl; conv => whnf) | ((first | apply loadP_cells0 | apply loadP_cellsA | apply idxP_sl); (first | assumption | ((first | refine Cells.ext (by assumption) ?_ | refine SlP.ext (by assumption) ?_); (focus ((repeat' (first | assumption | exact Ext.refl _ | apply Ext.push | (refine Ext.set ?_ (by first | assumption | exact Nat.le_refl _ | exact Ext.size (by assumption) | omega | (simp only [Heap.size_push, Heap.size_set] at *; omega))))); done)))); (first | rfl | assumption); (try intro _ _ _); conv => whnf) | (apply loadP_cells; (first | assumption | ((first | refine Cells.ext (by assumption) ?_ | refine SlP.ext (by assumption) ?_); (focus ((repeat' (first | assumption | exact Ext.refl _ | apply Ext.push | (refine Ext.set ?_ (by first | assumption | exact Nat.le_refl _ | exact Ext.size (by assumption) | omega | (simp only [Heap.size_push, Heap.size_set] at *; omega))))); done)))); rfl; conv => whnf)))
        refine ifP.mk (fun (y2 : x.tick ≤ tick) => ?_) (fun (y2 : ¬ x.tick ≤ tick) => ?_)
        · (conv => whnf)
          (repeat (first | (refine numP.mk (by unfold inI; first | omega | (dsimp only at *; omega)) ?_; conv => whnf) | ((first | apply loadP_get | apply loadP_agg' | apply storeP_getR); (focus ((repeat' (first | assumption | exact At.self | (refine At.setSelf (by (first | omega | (simp only [Heap.size_push, Heap.size_set]; omega)))) | apply At.push | (refine At.setNe ?_ (by (first | omega | (simp only [Heap.size_push, Heap.size_set]; omega)))) | (refine Ext.at' (by assumption) _ _ ?_))); done)); rfl; conv => whnf) | ((first | apply loadP_cells0 | apply loadP_cellsA | apply idxP_sl); (first | assumption | ((first | refine Cells.ext (by assumption) ?_ | refine SlP.ext (by assumption) ?_); (focus ((repeat' (first | assumption | exact Ext.refl _ | apply Ext.push | (refine Ext.set ?_ (by first | assumption | exact Nat.le_refl _ | exact Ext.size (by assumption) | omega | (simp only [Heap.size_push, Heap.size_set] at *; omega))))); done)))); (first | rfl | assumption); (try intro _ _ _); conv => whnf) | (apply loadP_cells; (first | assumption | ((first | refine Cells.ext (by assumption) ?_ | refine SlP.ext (by assumption) ?_); (focus ((repeat' (first | assumption | exact Ext.refl _ | apply Ext.push | (refine Ext.set ?_ (by first | assumption | exact Nat.le_refl _ | exact Ext.size (by assumption) | omega | (simp only [Heap.size_push, Heap.size_set] at *; omega))))); done)))); rfl; conv => whnf)))
          exact ⟨k + 1, ⟨rfl, rfl, rfl, rfl, go _ (by rw [stepL, if_pos ⟨y1, y2⟩]), rfl, trivial⟩, ⟨rfl, by omega⟩, by omega⟩
        · (conv => whnf)
          (repeat (first | (refine numP.mk (by unfold inI; first | omega | (dsimp only at *; omega)) ?_; conv => whnf) | ((first | apply loadP_get | apply loadP_agg' | apply storeP_getR); (focus ((repeat' (first | assumption | exact At.self | (refine At.setSelf (by (first | omega | (simp only [Heap.size_push, Heap.size_set]; omega)))) | apply At.push | (refine At.setNe ?_ (by (first | omega | (simp only [Heap.size_push, Heap.size_set]; omega)))) | (refine Ext.at' (by assumption) _ _ ?_))); done)); rfl; conv => whnf) | ((first | apply loadP_cells0 | apply loadP_cellsA | apply idxP_sl); (first | assumption | ((first | refine Cells.ext (by assumption) ?_ | refine SlP.ext (by assumption) ?_); (focus ((repeat' (first | assumption | exact Ext.refl _ | apply Ext.push | (refine Ext.set ?_ (by first | assumption | exact Nat.le_refl _ | exact Ext.size (by assumption) | omega | (simp only [Heap.size_push, Heap.size_set] at *; omega))))); done)))); (first | rfl | assumption); (try intro _ _ _); conv => whnf) | (apply loadP_cells; (first | assumption | ((first | refine Cells.ext (by assumption) ?_ | refine SlP.ext (by assumption) ?_); (focus ((repeat' (first | assumption | exact Ext.refl _ | apply Ext.push | (refine Ext.set ?_ (by first | assumption | exact Nat.le_refl _ | exact Ext.size (by assumption) | omega | (simp only [Heap.size_push, Heap.size_set] at *; omega))))); done)))); rfl; conv => whnf)))
          exact ⟨k + 1, ⟨rfl, rfl, rfl, rfl, go _ (by rw [stepL, if_neg (fun h => y2 h.2)]), rfl, trivial⟩, ⟨rfl, by omega⟩, by omega⟩
      · (conv => whnf)
        (repeat (first | (refine numP.mk (by unfold inI; first | omega | (dsimp only at *; omega)) ?_; conv => whnf) | ((first | apply loadP_get | apply loadP_agg' | apply storeP_getR); (focus ((repeat' (first | assumption | exact At.self | (refine At.setSelf (by (first | omega | (simp only [Heap.size_push, Heap.size_set]; omega)))) | apply At.push | (refine At.setNe ?_ (by (first | omega | (simp only [Heap.size_push, Heap.size_set]; omega)))) | (refine Ext.at' (by assumption) _ _ ?_))); done)); rfl; conv => whnf) | ((first | apply loadP_cells0 | apply loadP_cellsA | apply idxP_sl); (first | assumption | ((first | refine Cells.ext (by assumption) ?_ | refine SlP.ext (by assumption) ?_); (focus ((repeat' (first | assumption | exact Ext.refl _ | apply Ext.push | (refine Ext.set ?_ (by first | assumption | exact Nat.le_refl _ | exact Ext.size (by assumption) | omega | (simp only [Heap.size_push, Heap.size_set] at *; omega))))); done)))); (first | rfl | assumption); (try intro _ _ _); conv => whnf) | (apply loadP_cells; (first | assumption | ((first | refine Cells.ext (by assumption) ?_ | refine SlP.ext (by assumption) ?_); (focus ((repeat' (first | assumption | exact Ext.refl _ | apply Ext.push | (refine Ext.set ?_ (by first | assumption | exact Nat.le_refl _ | exact Ext.size (by assumption) | omega | (simp only [Heap.size_push, Heap.size_set] at *; omega))))); done)))); rfl; conv => whnf)))
        exact ⟨k + 1, ⟨rfl, rfl, rfl, rfl, go _ (by rw [stepL, if_neg (fun h => y1 h.1)]), rfl, trivial⟩, ⟨rfl, by omega⟩, by omega⟩
    · have hk : k = np := by have : ¬ (k : Int) < (np : Int) := hge2; omega
      subst hk
      (conv => whnf)
      refine ifP.mk (fun (y1 : (pages.take k).foldl (stepL tick w) 0 ≠ 2) => ?_) (fun _ => ?_)
      · rw [List.take_of_length_le (by omega)] at y1
        exact absurd w1 y1
      (conv => whnf)
      (repeat (first | (refine numP.mk (by unfold inI; first | omega | (dsimp only at *; omega)) ?_; conv => whnf) | ((first | apply loadP_get | apply loadP_agg' | apply storeP_getR); (focus ((repeat' (first | assumption | exact At.self | (refine At.setSelf (by (first | omega | (simp only [Heap.size_push, Heap.size_set]; omega)))) | apply At.push | (refine At.setNe ?_ (by (first | omega | (simp only [Heap.size_push, Heap.size_set]; omega)))) | (refine Ext.at' (by assumption) _ _ ?_))); done)); rfl; conv => whnf) | ((first | apply loadP_cells0 | apply loadP_cellsA | apply idxP_sl); (first | assumption | ((first | refine Cells.ext (by assumption) ?_ | refine SlP.ext (by assumption) ?_); (focus ((repeat' (first | assumption | exact Ext.refl _ | apply Ext.push | (refine Ext.set ?_ (by first | assumption | exact Nat.le_refl _ | exact Ext.size (by assumption) | omega | (simp only [Heap.size_push, Heap.size_set] at *; omega))))); done)))); (first | rfl | assumption); (try intro _ _ _); conv => whnf) | (apply loadP_cells; (first | assumption | ((first | refine Cells.ext (by assumption) ?_ | refine SlP.ext (by assumption) ?_); (focus ((repeat' (first | assumption | exact Ext.refl _ | apply Ext.push | (refine Ext.set ?_ (by first | assumption | exact Nat.le_refl _ | exact Ext.size (by assumption) | omega | (simp only [Heap.size_push, Heap.size_set] at *; omega))))); done)))); rfl; conv => whnf)))
      refine callP_fn ?_
      refine s16 hB ag10 (by omega) (fun hmem => absurd hmem w2) (fun _ => ?_)
      (conv => whnf)
      (repeat (first | (refine numP.mk (by unfold inI; first | omega | (dsimp only at *; omega)) ?_; conv => whnf) | ((first | apply loadP_get | apply loadP_agg' | apply storeP_getR); (focus ((repeat' (first | assumption | exact At.self | (refine At.setSelf (by (first | omega | (simp only [Heap.size_push, Heap.size_set]; omega)))) | apply At.push | (refine At.setNe ?_ (by (first | omega | (simp only [Heap.size_push, Heap.size_set]; omega)))) | (refine Ext.at' (by assumption) _ _ ?_))); done)); rfl; conv => whnf) | ((first | apply loadP_cells0 | apply loadP_cellsA | apply idxP_sl); (first | assumption | ((first | refine Cells.ext (by assumption) ?_ | refine SlP.ext (by assumption) ?_); (focus ((repeat' (first | assumption | exact Ext.refl _ | apply Ext.push | (refine Ext.set ?_ (by first | assumption | exact Nat.le_refl _ | exact Ext.size (by assumption) | omega | (simp only [Heap.size_push, Heap.size_set] at *; omega))))); done)))); (first | rfl | assumption); (try intro _ _ _); conv => whnf) | (apply loadP_cells; (first | assumption | ((first | refine Cells.ext (by assumption) ?_ | refine SlP.ext (by assumption) ?_); (focus ((repeat' (first | assumption | exact Ext.refl _ | apply Ext.push | (refine Ext.set ?_ (by first | assumption | exact Nat.le_refl _ | exact Ext.size (by assumption) | omega | (simp only [Heap.size_push, Heap.size_set] at *; omega))))); done)))); rfl; conv => whnf)))
      exact ⟨t + 1, ⟨rfl, rfl, rfl, rfl, trivial⟩, ⟨rfl, by omega⟩, by omega⟩
  · (conv => whnf)
    refine callP_fn ?_
    refine look4 _ _ e410 ?_
    (conv => whnf)
    exact done _ e410
end LV
