/- Part of the proof of this claim: text V11. -/
import Derived.Test.YtfcpgeanbklleaaGreatDoorV8
import Derived.Test.YtfcpgeanbklleaaGreatDoorW12
set_option linter.unusedSectionVars false
set_option linter.unusedSimpArgs false
set_option linter.unusedVariables false
namespace LV
open Go Ab
set_option maxRecDepth 100000

def encX (b : Cls) (r : Rmp) (tk fu tc ts : Int) (s : Stn) (call : Int) (p : Option Addr) (n cs : Nat) (len : Int) : List Value :=
  encK b ++ (encR r ++ ([.int .i64 tk, .int .i64 fu, .int .i64 tc, .int .i64 ts] ++ (encSt s ++ [.int .i64 call, .slice p n cs, .int .i64 len])))

variable {B : CallPred} (hB : BaseMono B)
include hB

theorem s5 {c : Cht} {b : Cls} {r : Rmp} {tk fu tc ts : Int} {s : Stn} {call len : Int} {p : Option Addr} {n cs : Nat} {seats : List Int} {H : Heap} {R : Value → Heap → Prop}
    (hc : ChtAt H c) (hst : StnAt H s) (hl : SlP H 1 encI p n seats) (hW : At H 0 (.cells true 0 wyL))
    (hM : ∀ (n : Nat) (x : Int) H R, n ≤ 144 → x = (n : Int) → At H 0 (.cells true 0 wyL) → R (.tuple ⟨[.int .u64 0, .int .u64 (n : Int)]⟩) H → ACall AP B (.fn 180) [.int .u64 1, .int .u64 x] H R)
    (hL : ∀ (H : Heap) (R : Value → Heap → Prop), At H 0 (.cells true 0 wyL) → R (.bool true) H → ACall AP B (.fn 12) [] H R)
    (h1 : ∀ H', Ext H H' → R (.bool true) H') :
    ACall AP B (.fn 5) [.agg ⟨encC c⟩, .agg ⟨encX b r tk fu tc ts s call p n cs len⟩] H R := by
  (refine run_fn hB (a := a5) ap5 (by decide +kernel) rfl (by decide) ?_; conv => whnf)
  (repeat (first | (refine numP.mk ?_ ?_; exact fN; conv => whnf) | ((first | apply loadP_get | apply loadP_agg' | apply storeP_getR); exact atT; rfl; conv => whnf) | ((first | apply loadP_cells0 | apply loadP_cellsA | apply idxP_sl); (first | exact ceC | exact slC); (first | rfl | assumption); (try intro _ _ _); conv => whnf) | (apply loadP_cells; exact ceC; rfl; conv => whnf)))
  generalize hH : (H.push _).push _ = H1
  have e1 : Ext H H1 := by rw [← hH]; exact exT
  have k1 : At H1 H.size (.cells false 0 (encC c)) := by rw [← hH]; exact atT
  have k2 : At H1 (H.size + 1) (.cells false 0 (encX b r tk fu tc ts s call p n cs len)) := by rw [← hH]; exact atT
  clear hH
  refine callP_fn ?_
  refine s27 hB (hc.ext e1) fun H2 v e2 => ?_
  have e02 := e1.trans e2
  have k1 := e2.at' _ _ k1
  have k2 := e2.at' _ _ k2
  cases v
  rotate_left
  · (conv => whnf)
    refine callP_fn (hL _ _ (e02.at' _ _ hW) ?_)
    (conv => whnf)
    exact h1 _ e02
  (conv => whnf)
  (repeat (first | (refine numP.mk ?_ ?_; exact fN; conv => whnf) | ((first | apply loadP_get | apply loadP_agg' | apply storeP_getR); exact atT; rfl; conv => whnf) | ((first | apply loadP_cells0 | apply loadP_cellsA | apply idxP_sl); (first | exact ceC | exact slC); (first | rfl | assumption); (try intro _ _ _); conv => whnf) | (apply loadP_cells; exact ceC; rfl; conv => whnf)))
  refine callP_fn ?_
  refine s8 (s := s) hB (hst.ext e02) fun H3 v e3 => ?_
  have e03 := e02.trans e3
  have k1 := e3.at' _ _ k1
  have k2 := e3.at' _ _ k2
  cases v
  rotate_left
  · (conv => whnf)
    refine callP_fn (hL _ _ (e03.at' _ _ hW) ?_)
    (conv => whnf)
    exact h1 _ e03
  (conv => whnf)
  (repeat (first | (refine numP.mk ?_ ?_; exact fN; conv => whnf) | ((first | apply loadP_get | apply loadP_agg' | apply storeP_getR); exact atT; rfl; conv => whnf) | ((first | apply loadP_cells0 | apply loadP_cellsA | apply idxP_sl); (first | exact ceC | exact slC); (first | rfl | assumption); (try intro _ _ _); conv => whnf) | (apply loadP_cells; exact ceC; rfl; conv => whnf)))
  refine callP_fn ?_
  refine s9 (call := call) (p := p) (n := n) (c := cs) (len := len) hB fun H4 v e4 => ?_
  have e04 := e03.trans e4
  have k1 := e4.at' _ _ k1
  have k2 := e4.at' _ _ k2
  cases v
  rotate_left
  · (conv => whnf)
    refine callP_fn (hL _ _ (e04.at' _ _ hW) ?_)
    (conv => whnf)
    exact h1 _ e04
  (conv => whnf)
  (repeat (first | (refine numP.mk ?_ ?_; exact fN; conv => whnf) | ((first | apply loadP_get | apply loadP_agg' | apply storeP_getR); exact atT; rfl; conv => whnf) | ((first | apply loadP_cells0 | apply loadP_cellsA | apply idxP_sl); (first | exact ceC | exact slC); (first | rfl | assumption); (try intro _ _ _); conv => whnf) | (apply loadP_cells; exact ceC; rfl; conv => whnf)))
  refine callP_fn ?_
  refine s10 (s := s) hB (hst.ext e04) (hl.ext e04) (fun H5 e5 okc => ?_) (fun H5 ev e5 he => ?_)
  rotate_left
  · (conv => whnf)
    refine ifP_y he ?_
    (conv => whnf)
    refine callP_fn (hL _ _ ((e04.trans e5).at' _ _ hW) ?_)
    (conv => whnf)
    exact h1 _ (e04.trans e5)
  have e05 := e04.trans e5
  have k1 := e5.at' _ _ k1
  have k2 := e5.at' _ _ k2
  (conv => whnf)
  (refine ifP_n (by decide) ?_; conv => whnf)
  (repeat (first | (refine numP.mk ?_ ?_; exact fN; conv => whnf) | ((first | apply loadP_get | apply loadP_agg' | apply storeP_getR); exact atT; rfl; conv => whnf) | ((first | apply loadP_cells0 | apply loadP_cellsA | apply idxP_sl); (first | exact ceC | exact slC); (first | rfl | assumption); (try intro _ _ _); conv => whnf) | (apply loadP_cells; exact ceC; rfl; conv => whnf)))
  refine callP_fn ?_
  refine s28 (b := b) (r := r) hB (hc.ext e05) (fun H6 e6 ok okb okr => ?_) (fun H6 ev e6 he => ?_)
  rotate_left
  · (conv => whnf)
    refine ifP_y he ?_
    (conv => whnf)
    refine callP_fn (hL _ _ ((e05.trans e6).at' _ _ hW) ?_)
    (conv => whnf)
    exact h1 _ (e05.trans e6)
  have e06 := e05.trans e6
  have k1 := e6.at' _ _ k1
  have k2 := e6.at' _ _ k2
  have rc := okr.cell
  have okn := ok.cells
  have okt := ok.nt
  have ccall := okc.call
  obtain ⟨ramp, hramp⟩ : ∃ ramp : Nat, r.cell = (ramp : Int) := ⟨r.cell.toNat, by omega⟩
  (conv => whnf)
  (refine ifP_n (by decide) ?_; conv => whnf)
  (repeat (first | (refine numP.mk ?_ ?_; exact fN; conv => whnf) | ((first | apply loadP_get | apply loadP_agg' | apply storeP_getR); exact atT; rfl; conv => whnf) | ((first | apply loadP_cells0 | apply loadP_cellsA | apply idxP_sl); (first | exact ceC | exact slC); (first | rfl | assumption); (try intro _ _ _); conv => whnf) | (apply loadP_cells; exact ceC; rfl; conv => whnf)))
  refine callP_fn ?_
  refine s17 (s := s) hB (hst.ext e06) (hl.ext e06) okc (fun H7 t p7 m7 c7 w7 tb e7 _ _ _ => ?_) (fun H7 e7 => ?_)
  · have e07 := e06.trans e7
    have k1 := e7.at' _ _ k1
    have k2 := e7.at' _ _ k2
    (conv => whnf)
    (repeat (first | (refine numP.mk ?_ ?_; exact fN; conv => whnf) | ((first | apply loadP_get | apply loadP_agg' | apply storeP_getR); exact atT; rfl; conv => whnf) | ((first | apply loadP_cells0 | apply loadP_cellsA | apply idxP_sl); (first | exact ceC | exact slC); (first | rfl | assumption); (try intro _ _ _); conv => whnf) | (apply loadP_cells; exact ceC; rfl; conv => whnf)))
    refine callP_fn ?_
    refine s29 (b := b) (r := r) hB (hc.ext e07) (e07.at' _ _ hW) ok okb okr fun H8 p8 c8 l e8 sl ll has => ?_
    have e08 := e07.trans e8
    have k1 := e8.at' _ _ k1
    have k2 := e8.at' _ _ k2
    (conv => whnf)
    (refine ifP_n (by decide) ?_; conv => whnf)
    (refine ifP_n (by decide) ?_; conv => whnf)
    (repeat (first | (refine numP.mk ?_ ?_; exact fN; conv => whnf) | ((first | apply loadP_get | apply loadP_agg' | apply storeP_getR); exact atT; rfl; conv => whnf) | ((first | apply loadP_cells0 | apply loadP_cellsA | apply idxP_sl); (first | exact ceC | exact slC); (first | rfl | assumption); (try intro _ _ _); conv => whnf) | (apply loadP_cells; exact ceC; rfl; conv => whnf)))
    refine loop_pins (CallMono.acall hB) (σ := Nat) (fun u => [(2, .pointer (some ⟨H.size, 0, none⟩)), (3, .pointer (some ⟨H.size + 1, 0, none⟩)), (7, .int .i64 0), (8, .slice p8 l.length c8), (10, .int .i64 (t + u))])
      (fun u H' => Ext H8 H') (fun u => ((c.nt : Int) - t - u).toNat) 0 ?_ ?_ ?_
    · exact ⟨rfl, rfl, rfl, rfl, by simp [upd], trivial⟩
    · exact Ext.refl _
    rintro u E H' e'
    have e09 := e08.trans e'
    have k1 := e'.at' _ _ k1
    have k2 := e'.at' _ _ k2
    (conv => whnf)
    (refine ifP_y (by decide) ?_; conv => whnf)
    (repeat (first | (refine numP.mk ?_ ?_; exact fN; conv => whnf) | ((first | apply loadP_get | apply loadP_agg' | apply storeP_getR); exact atT; rfl; conv => whnf) | ((first | apply loadP_cells0 | apply loadP_cellsA | apply idxP_sl); (first | exact ceC | exact slC); (first | rfl | assumption); (try intro _ _ _); conv => whnf) | (apply loadP_cells; exact ceC; rfl; conv => whnf)))
    refine ifP.mk (fun (a1 : t + u < (c.nt : Int)) => ?_) (fun (a1 : ¬ t + u < (c.nt : Int)) => ?_)
    rotate_left
    · (conv => whnf)
      refine callP_fn (hL _ _ (e09.at' _ _ hW) ?_)
      (conv => whnf)
      exact h1 _ e09
    obtain ⟨tn, htn⟩ : ∃ tn : Nat, t + u = (tn : Int) := ⟨(t + u).toNat, by omega⟩
    have htn' : tn < c.nt := by omega
    (conv => whnf)
    refine loop_pins (CallMono.acall hB) (σ := Nat × Bool) (fun z => [(2, .pointer (some ⟨H.size, 0, none⟩)), (3, .pointer (some ⟨H.size + 1, 0, none⟩)), (7, .int .i64 0), (8, .slice p8 l.length c8), (10, .int .i64 (t + u)), (11, .bool z.2), (12, .int .i64 (z.1 : Int))])
      (fun z H2 => H2 = H' ∧ z.1 ≤ l.length ∧ (z.2 = true ↔ ∃ j x, j < z.1 ∧ l[j]? = some x ∧ x.1 ≤ t + u ∧ t + u ≤ x.2)) (fun z => l.length - z.1) (0, false) ?_ ?_ ?_
    · exact ⟨rfl, rfl, rfl, rfl, rfl, rfl, rfl, trivial⟩
    · exact ⟨rfl, Nat.zero_le _, by simp⟩
    rintro ⟨i, is⟩ E H2 ⟨rfl, hi, hiff⟩
    simp only at hi hiff
    have sl2 := sl.ext e'
    (conv => whnf)
    refine ifP.mk (fun (a2 : (i : Int) < (l.length : Int)) => ?_) (fun (a2 : ¬ (i : Int) < (l.length : Int)) => ?_)
    · obtain ⟨x, hx⟩ : ∃ x, l[i]? = some x := ⟨l[i]'(by omega), by simp⟩
      have up : ∀ v : Bool, (v = true ↔ is = true ∨ (x.1 ≤ t + u ∧ t + u ≤ x.2)) → (v = true ↔ ∃ j y, j < i + 1 ∧ l[j]? = some y ∧ y.1 ≤ t + u ∧ t + u ≤ y.2) := by
        intro v hv
        rw [hv, hiff]
        constructor
        · rintro (⟨j, y, hj, h⟩ | h)
          · exact ⟨j, y, by omega, h⟩
          · exact ⟨i, x, by omega, hx, h⟩
        · rintro ⟨j, y, hj, hy, h⟩
          by_cases hji : j = i
          · subst hji; rw [hx] at hy; cases hy; exact .inr h
          · exact .inl ⟨j, y, by omega, hy, h⟩
      cases is
      · (conv => whnf)
        (repeat (first | (refine numP.mk ?_ ?_; exact fN; conv => whnf) | ((first | apply loadP_get | apply loadP_agg' | apply storeP_getR); exact atT; rfl; conv => whnf) | ((first | apply loadP_cells0 | apply loadP_cellsA | apply idxP_sl); (first | exact ceC | exact slC); (first | rfl | assumption); (try intro _ _ _); conv => whnf) | (apply loadP_cells; exact ceC; rfl; conv => whnf)))
        refine ifP.mk (fun (b1 : x.1 ≤ t + u) => ?_) (fun (b1 : ¬ x.1 ≤ t + u) => ?_)
        · (conv => whnf)
          (repeat (first | (refine numP.mk ?_ ?_; exact fN; conv => whnf) | ((first | apply loadP_get | apply loadP_agg' | apply storeP_getR); exact atT; rfl; conv => whnf) | ((first | apply loadP_cells0 | apply loadP_cellsA | apply idxP_sl); (first | exact ceC | exact slC); (first | rfl | assumption); (try intro _ _ _); conv => whnf) | (apply loadP_cells; exact ceC; rfl; conv => whnf)))
          refine ifP.mk (fun (b2 : t + u ≤ x.2) => ?_) (fun (b2 : ¬ t + u ≤ x.2) => ?_)
          · (conv => whnf)
            (repeat (first | (refine numP.mk ?_ ?_; exact fN; conv => whnf) | ((first | apply loadP_get | apply loadP_agg' | apply storeP_getR); exact atT; rfl; conv => whnf) | ((first | apply loadP_cells0 | apply loadP_cellsA | apply idxP_sl); (first | exact ceC | exact slC); (first | rfl | assumption); (try intro _ _ _); conv => whnf) | (apply loadP_cells; exact ceC; rfl; conv => whnf)))
            exact ⟨(i + 1, true), ⟨rfl, rfl, rfl, rfl, rfl, rfl, rfl, trivial⟩, ⟨rfl, by simp only; omega, up true (by simp [b1, b2])⟩, by simp only; omega⟩
          · (conv => whnf)
            (repeat (first | (refine numP.mk ?_ ?_; exact fN; conv => whnf) | ((first | apply loadP_get | apply loadP_agg' | apply storeP_getR); exact atT; rfl; conv => whnf) | ((first | apply loadP_cells0 | apply loadP_cellsA | apply idxP_sl); (first | exact ceC | exact slC); (first | rfl | assumption); (try intro _ _ _); conv => whnf) | (apply loadP_cells; exact ceC; rfl; conv => whnf)))
            exact ⟨(i + 1, false), ⟨rfl, rfl, rfl, rfl, rfl, rfl, rfl, trivial⟩, ⟨rfl, by simp only; omega, up false (by simp [b2])⟩, by simp only; omega⟩
        · (conv => whnf)
          (repeat (first | (refine numP.mk ?_ ?_; exact fN; conv => whnf) | ((first | apply loadP_get | apply loadP_agg' | apply storeP_getR); exact atT; rfl; conv => whnf) | ((first | apply loadP_cells0 | apply loadP_cellsA | apply idxP_sl); (first | exact ceC | exact slC); (first | rfl | assumption); (try intro _ _ _); conv => whnf) | (apply loadP_cells; exact ceC; rfl; conv => whnf)))
          exact ⟨(i + 1, false), ⟨rfl, rfl, rfl, rfl, rfl, rfl, rfl, trivial⟩, ⟨rfl, by simp only; omega, up false (by simp [b1])⟩, by simp only; omega⟩
      · (conv => whnf)
        (repeat (first | (refine numP.mk ?_ ?_; exact fN; conv => whnf) | ((first | apply loadP_get | apply loadP_agg' | apply storeP_getR); exact atT; rfl; conv => whnf) | ((first | apply loadP_cells0 | apply loadP_cellsA | apply idxP_sl); (first | exact ceC | exact slC); (first | rfl | assumption); (try intro _ _ _); conv => whnf) | (apply loadP_cells; exact ceC; rfl; conv => whnf)))
        exact ⟨(i + 1, true), ⟨rfl, rfl, rfl, rfl, rfl, rfl, rfl, trivial⟩, ⟨rfl, by simp only; omega, up true (by simp)⟩, by simp only; omega⟩
    · have hil : i = l.length := by omega
      have hrd : is = true ↔ Rd c b r tn := by
        rw [hiff, ← has tn htn']
        constructor
        · rintro ⟨j, x, _, hx, h⟩
          exact ⟨x, List.mem_of_getElem? hx, by omega, by omega⟩
        · rintro ⟨x, hx, h⟩
          obtain ⟨j, hj1, hj2⟩ := List.getElem_of_mem hx
          exact ⟨j, x, by omega, by rw [List.getElem?_eq_getElem hj1, hj2], by omega, by omega⟩
      (conv => whnf)
      (repeat (first | (refine numP.mk ?_ ?_; exact fN; conv => whnf) | ((first | apply loadP_get | apply loadP_agg' | apply storeP_getR); exact atT; rfl; conv => whnf) | ((first | apply loadP_cells0 | apply loadP_cellsA | apply idxP_sl); (first | exact ceC | exact slC); (first | rfl | assumption); (try intro _ _ _); conv => whnf) | (apply loadP_cells; exact ceC; rfl; conv => whnf)))
      refine callP_fn ?_
      rw [htn]
      refine s30 (b := b) (r := r) (ramp := ramp) hB (hc.ext e09) (e09.at' _ _ hW) hM ok okb okr hramp htn' fun H9 p9 c9 out e9 so yes no => ?_
      have e10 := e09.trans e9
      have k1 := e9.at' _ _ k1
      have k2 := e9.at' _ _ k2
      have lo := so.len
      (conv => whnf)
      (refine ifP_n (by decide) ?_; conv => whnf)
      (repeat (first | (refine numP.mk ?_ ?_; exact fN; conv => whnf) | ((first | apply loadP_get | apply loadP_agg' | apply storeP_getR); exact atT; rfl; conv => whnf) | ((first | apply loadP_cells0 | apply loadP_cellsA | apply idxP_sl); (first | exact ceC | exact slC); (first | rfl | assumption); (try intro _ _ _); conv => whnf) | (apply loadP_cells; exact ceC; rfl; conv => whnf)))
      refine callP_fn ?_
      refine s31 (c := c) hB ok fun H10 e11 => ?_
      have k1 := e11.at' _ _ k1
      have k2 := e11.at' _ _ k2
      have so := so.ext e11
      (conv => whnf)
      refine ifP_n (fun h => h (show (c.nd : Int) = c.wide * c.high from ok.nd)) ?_
      (conv => whnf)
      (repeat (first | (refine numP.mk ?_ ?_; exact fN; conv => whnf) | ((first | apply loadP_get | apply loadP_agg' | apply storeP_getR); exact atT; rfl; conv => whnf) | ((first | apply loadP_cells0 | apply loadP_cellsA | apply idxP_sl); (first | exact ceC | exact slC); (first | rfl | assumption); (try intro _ _ _); conv => whnf) | (apply loadP_cells; exact ceC; rfl; conv => whnf)))
      have fin : (t + ((u + 1 : Nat) : Int)) = (tn : Int) + 1 := by omega
      by_cases hR : Rd c b r tn
      · have his : is = true := hrd.2 hR
        subst his
        refine idxP_slj (i := ramp) hramp so (yes hR) fun b9 o9 h9 => ?_
        (conv => whnf)
        (repeat (first | (refine numP.mk ?_ ?_; exact fN; conv => whnf) | ((first | apply loadP_get | apply loadP_agg' | apply storeP_getR); exact atT; rfl; conv => whnf) | ((first | apply loadP_cells0 | apply loadP_cellsA | apply idxP_sl); (first | exact ceC | exact slC); (first | rfl | assumption); (try intro _ _ _); conv => whnf) | (apply loadP_cells; exact ceC; rfl; conv => whnf)))
        refine ifP_y rfl ?_
        (conv => whnf)
        (repeat (first | (refine numP.mk ?_ ?_; exact fN; conv => whnf) | ((first | apply loadP_get | apply loadP_agg' | apply storeP_getR); exact atT; rfl; conv => whnf) | ((first | apply loadP_cells0 | apply loadP_cellsA | apply idxP_sl); (first | exact ceC | exact slC); (first | rfl | assumption); (try intro _ _ _); conv => whnf) | (apply loadP_cells; exact ceC; rfl; conv => whnf)))
        exact ⟨u + 1, ⟨rfl, rfl, rfl, rfl, by rw [fin]; rfl, trivial⟩, ((e'.trans e9).trans e11), by omega⟩
      · have his : is = false := by
          cases is
          · rfl
          · exact absurd (hrd.1 rfl) hR
        subst his
        refine idxP_slj (i := ramp) hramp so (no hR) fun b9 o9 h9 => ?_
        (conv => whnf)
        (repeat (first | (refine numP.mk ?_ ?_; exact fN; conv => whnf) | ((first | apply loadP_get | apply loadP_agg' | apply storeP_getR); exact atT; rfl; conv => whnf) | ((first | apply loadP_cells0 | apply loadP_cellsA | apply idxP_sl); (first | exact ceC | exact slC); (first | rfl | assumption); (try intro _ _ _); conv => whnf) | (apply loadP_cells; exact ceC; rfl; conv => whnf)))
        refine ifP_n (fun h => by have h : (-1 : Int) = (tn : Int) := h; omega) ?_
        (conv => whnf)
        (repeat (first | (refine numP.mk ?_ ?_; exact fN; conv => whnf) | ((first | apply loadP_get | apply loadP_agg' | apply storeP_getR); exact atT; rfl; conv => whnf) | ((first | apply loadP_cells0 | apply loadP_cellsA | apply idxP_sl); (first | exact ceC | exact slC); (first | rfl | assumption); (try intro _ _ _); conv => whnf) | (apply loadP_cells; exact ceC; rfl; conv => whnf)))
        refine idxP_slj (i := ramp) hramp so (no hR) fun b9 o9 h9 => ?_
        (conv => whnf)
        (repeat (first | (refine numP.mk ?_ ?_; exact fN; conv => whnf) | ((first | apply loadP_get | apply loadP_agg' | apply storeP_getR); exact atT; rfl; conv => whnf) | ((first | apply loadP_cells0 | apply loadP_cellsA | apply idxP_sl); (first | exact ceC | exact slC); (first | rfl | assumption); (try intro _ _ _); conv => whnf) | (apply loadP_cells; exact ceC; rfl; conv => whnf)))
        (refine ifP_n (by decide) ?_; conv => whnf)
        (repeat (first | (refine numP.mk ?_ ?_; exact fN; conv => whnf) | ((first | apply loadP_get | apply loadP_agg' | apply storeP_getR); exact atT; rfl; conv => whnf) | ((first | apply loadP_cells0 | apply loadP_cellsA | apply idxP_sl); (first | exact ceC | exact slC); (first | rfl | assumption); (try intro _ _ _); conv => whnf) | (apply loadP_cells; exact ceC; rfl; conv => whnf)))
        exact ⟨u + 1, ⟨rfl, rfl, rfl, rfl, by rw [fin]; rfl, trivial⟩, ((e'.trans e9).trans e11), by omega⟩
  · have e07 := e06.trans e7
    have k1 := e7.at' _ _ k1
    have k2 := e7.at' _ _ k2
    (conv => whnf)
    (repeat (first | (refine numP.mk ?_ ?_; exact fN; conv => whnf) | ((first | apply loadP_get | apply loadP_agg' | apply storeP_getR); exact atT; rfl; conv => whnf) | ((first | apply loadP_cells0 | apply loadP_cellsA | apply idxP_sl); (first | exact ceC | exact slC); (first | rfl | assumption); (try intro _ _ _); conv => whnf) | (apply loadP_cells; exact ceC; rfl; conv => whnf)))
    refine callP_fn ?_
    refine s29 (b := b) (r := r) hB (hc.ext e07) (e07.at' _ _ hW) ok okb okr fun H8 p8 c8 l e8 sl ll has => ?_
    have e08 := e07.trans e8
    (conv => whnf)
    (refine ifP_y (by decide) ?_; conv => whnf)
    (refine ifP_n (by decide) ?_; conv => whnf)
    (refine ifP_n (by decide) ?_; conv => whnf)
    (repeat (first | (refine numP.mk ?_ ?_; exact fN; conv => whnf) | ((first | apply loadP_get | apply loadP_agg' | apply storeP_getR); exact atT; rfl; conv => whnf) | ((first | apply loadP_cells0 | apply loadP_cellsA | apply idxP_sl); (first | exact ceC | exact slC); (first | rfl | assumption); (try intro _ _ _); conv => whnf) | (apply loadP_cells; exact ceC; rfl; conv => whnf)))
    refine loop_pins (CallMono.acall hB) (σ := Nat) (fun u => [(7, .int .i64 3)])
      (fun u H' => Ext H8 H') (fun u => u) 0 ?_ ?_ ?_
    · exact ⟨rfl, trivial⟩
    · exact Ext.refl _
    rintro u E H' e'
    have e09 := e08.trans e'
    (conv => whnf)
    (refine ifP_n (by decide) ?_; conv => whnf)
    refine callP_fn (hL _ _ (e09.at' _ _ hW) ?_)
    (conv => whnf)
    exact h1 _ e09
end LV
