/- Part of the proof of this claim: text V6. -/
import Derived.Test.YtfcpgeanbklleaaGreatDoorV5
set_option linter.unusedSectionVars false
set_option linter.unusedSimpArgs false
set_option linter.unusedVariables false
namespace LV
open Go Ab
set_option maxRecDepth 100000

def lowW (c : Cht) (r : Rmp) (t : Nat) : Int := if r.draught - c.depth.getD r.cell.toNat 0 + c.swell.getD t 0 > r.least then r.draught - c.depth.getD r.cell.toNat 0 + c.swell.getD t 0 else r.least

/-- A boat surely can be launched in a tick. -/
def okT (c : Cht) (r : Rmp) (t : Nat) : Prop := c.swell.getD t 0 ≤ r.surf ∧ lowW c r t ≤ (c.tide.getD t (0, 0)).1 ∧ (c.tide.getD t (0, 0)).2 ≤ r.most

instance (c : Cht) (r : Rmp) (t : Nat) : Decidable (okT c r t) := by unfold okT; infer_instance

def winL (c : Cht) (r : Rmp) : Nat → List (Int × Int)
  | 0 => []
  | t + 1 => if okT c r t then growL (winL c r t) t else winL c r t

theorem winL_len (c : Cht) (r : Rmp) : ∀ t, (winL c r t).length ≤ t
  | 0 => by simp [winL]
  | t + 1 => by
    have ih := winL_len c r t
    rw [winL]
    split
    · have := growL_len (winL c r t) t; omega
    · omega

theorem winL_mem (c : Cht) (r : Rmp) : ∀ t, ∀ s ∈ winL c r t, 0 ≤ s.1 ∧ s.1 ≤ s.2 ∧ s.2 < t
  | 0, s, h => by simp [winL] at h
  | t + 1, s, h => by
    have ih := winL_mem c r t
    rw [winL] at h
    split at h
    · rcases growL_mem h with h | h | ⟨s0, h0, h1, rfl⟩
      · have := ih s h; omega
      · subst h; simp only; omega
      · have := ih s0 h0; simp only; omega
    · have := ih s h; omega

theorem winL_yes {c : Cht} {r : Rmp} {t : Nat} (h : okT c r t) : winL c r (t + 1) = growL (winL c r t) t := by rw [winL, if_pos h]
theorem winL_no {c : Cht} {r : Rmp} {t : Nat} (h : ¬ okT c r t) : winL c r (t + 1) = winL c r t := by rw [winL, if_neg h]

/-- Two slices of the call's own lie apart. -/
def Apart (p q : Option Addr) : Prop := ∀ a b, p = some a → q = some b → a.block ≠ b.block

theorem Apart.new {p q : Option Addr} {n : Nat} (h : ∀ b, q = some b → b.block < n) (hp : p = some ⟨n, 0, none⟩) : Apart p q := by
  intro a b ha hb e
  rw [hp] at ha; cases ha
  have := h b hb
  simp only at e; omega

theorem Mine.lt {H0 H : Heap} {esz n c : Nat} {p : Option Addr} {C : List Value} (h : Mine H0 H esz p n c C) : ∀ b, p = some b → b.block < H.size := by
  cases h with
  | nil => intro b hb; cases hb
  | mk h1 h2 h3 => intro b hb; cases hb; exact h2.lt

theorem Mine.base {H0 H1 H : Heap} {esz n c : Nat} {p : Option Addr} {C : List Value} (h : Mine H1 H esz p n c C) (hs : H0.size ≤ H1.size) : Mine H0 H esz p n c C := by
  cases h with
  | nil => exact .nil
  | mk h1 h2 h3 => exact .mk (Nat.le_trans hs h1) h2 h3

theorem Apart.symm {p q : Option Addr} (h : Apart p q) : Apart q p := fun a b ha hb e => h b a hb ha e.symm

theorem Mine.ge {H0 H : Heap} {esz n c : Nat} {p : Option Addr} {C : List Value} (h : Mine H0 H esz p n c C) : ∀ b, p = some b → H0.size ≤ b.block := by
  cases h with
  | nil => intro b hb; cases hb
  | mk h1 h2 h3 => intro b hb; cases hb; exact h1

theorem Mine.keep {H0 H H' : Heap} {esz n c : Nat} {p q : Option Addr} {C : List Value} (h : Mine H0 H esz p n c C) (hk : ∀ d x, At H d x → (∀ a, q = some a → a.block ≠ d) → At H' d x) (ha : Apart q p) : Mine H0 H' esz p n c C := by
  cases h with
  | nil => exact .nil
  | mk h1 h2 h3 => exact .mk h1 (hk _ _ h2 fun a e => ha a _ e rfl) h3

variable {B : CallPred} (hB : BaseMono B)
include hB

/-- Windows of what is a chart and a ramp. -/
theorem s120 {c : Cht} {r : Rmp} {H : Heap} {R : Value → Heap → Prop} (hc : ChtAt H c) (ok : ChtOk c) (okr : RmpOk c r)
    (h1 : ∀ H' p cp q m cq, Ext H H' → Mine H H' 2 p (winL c r c.nt).length cp ((winL c r c.nt).flatMap encS) → R (.tuple ⟨[.slice p (winL c r c.nt).length cp, .slice q m cq, .int .i64 0]⟩) H') :
    ACall AP B (.fn 120) [.agg ⟨encC c⟩, .agg ⟨encR r⟩] H R := by
  have ld := hc.depth.len
  have lt := hc.tide.len
  have lw := hc.swell.len
  have okn := ok.cells
  have okt := ok.nt
  have okw := ok.nw
  have rc := okr.cell
  (refine run_fn hB (a := a120) ap120 (by decide +kernel) rfl (by decide) ?_; conv => whnf)
  (repeat (first | (refine numP.mk ?_ ?_; exact fN; conv => whnf) | ((first | apply loadP_get | apply loadP_agg' | apply storeP_getR); exact atT; rfl; conv => whnf) | ((first | apply loadP_cells0 | apply loadP_cellsA | apply idxP_sl); (first | exact ceC | exact slC); (first | rfl | assumption); (try intro _ _ _); conv => whnf) | (apply loadP_cells; exact ceC; rfl; conv => whnf)))
  generalize hH : (((H.push _).push _).push _).set _ _ = H1
  have e1 : Ext H H1 := by rw [← hH]; exact exT
  have k1 : At H1 H.size (.cells false 0 (encC c)) := by rw [← hH]; exact atT
  have k2 : At H1 (H.size + 1) (.cells false 0 (encR r)) := by rw [← hH]; exact atT
  have k3 : At H1 (H.size + 2) (.cells false 0 (encC c)) := by rw [← hH]; exact atT
  clear hH
  refine callP_fn (s118 hB (hc.ext e1) ok fun H2 e2 => ?_)
  have j1 := e2.at' _ _ k1
  have j2 := e2.at' _ _ k2
  have j3 := e2.at' _ _ k3
  have e12 := e1.trans e2
  (conv => whnf)
  (refine ifP_n (by decide) ?_; conv => whnf)
  (repeat (first | (refine numP.mk ?_ ?_; exact fN; conv => whnf) | ((first | apply loadP_get | apply loadP_agg' | apply storeP_getR); exact atT; rfl; conv => whnf) | ((first | apply loadP_cells0 | apply loadP_cellsA | apply idxP_sl); (first | exact ceC | exact slC); (first | rfl | assumption); (try intro _ _ _); conv => whnf) | (apply loadP_cells; exact ceC; rfl; conv => whnf)))
  refine callP_fn (s155 hB (fun _ _ => ?_) (fun a1 => absurd (by omega) a1))
  (conv => whnf)
  (repeat (first | (refine numP.mk ?_ ?_; exact fN; conv => whnf) | ((first | apply loadP_get | apply loadP_agg' | apply storeP_getR); exact atT; rfl; conv => whnf) | ((first | apply loadP_cells0 | apply loadP_cellsA | apply idxP_sl); (first | exact ceC | exact slC); (first | rfl | assumption); (try intro _ _ _); conv => whnf) | (apply loadP_cells; exact ceC; rfl; conv => whnf)))
  refine callP_fn (s155 hB (fun _ _ => ?_) (fun a1 => absurd okr.draught a1))
  (conv => whnf)
  (repeat (first | (refine numP.mk ?_ ?_; exact fN; conv => whnf) | ((first | apply loadP_get | apply loadP_agg' | apply storeP_getR); exact atT; rfl; conv => whnf) | ((first | apply loadP_cells0 | apply loadP_cellsA | apply idxP_sl); (first | exact ceC | exact slC); (first | rfl | assumption); (try intro _ _ _); conv => whnf) | (apply loadP_cells; exact ceC; rfl; conv => whnf)))
  refine callP_fn (s155 hB (fun _ _ => ?_) (fun a1 => absurd okr.least a1))
  (conv => whnf)
  (repeat (first | (refine numP.mk ?_ ?_; exact fN; conv => whnf) | ((first | apply loadP_get | apply loadP_agg' | apply storeP_getR); exact atT; rfl; conv => whnf) | ((first | apply loadP_cells0 | apply loadP_cellsA | apply idxP_sl); (first | exact ceC | exact slC); (first | rfl | assumption); (try intro _ _ _); conv => whnf) | (apply loadP_cells; exact ceC; rfl; conv => whnf)))
  refine ifP_n (by have := okr.most; omega) ?_
  (conv => whnf)
  (repeat (first | (refine numP.mk ?_ ?_; exact fN; conv => whnf) | ((first | apply loadP_get | apply loadP_agg' | apply storeP_getR); exact atT; rfl; conv => whnf) | ((first | apply loadP_cells0 | apply loadP_cellsA | apply idxP_sl); (first | exact ceC | exact slC); (first | rfl | assumption); (try intro _ _ _); conv => whnf) | (apply loadP_cells; exact ceC; rfl; conv => whnf)))
  refine callP_fn (s155 hB (fun _ _ => ?_) (fun a1 => absurd okr.surf a1))
  (conv => whnf)
  (repeat (first | (refine numP.mk ?_ ?_; exact fN; conv => whnf) | ((first | apply loadP_get | apply loadP_agg' | apply storeP_getR); exact atT; rfl; conv => whnf) | ((first | apply loadP_cells0 | apply loadP_cellsA | apply idxP_sl); (first | exact ceC | exact slC); (first | rfl | assumption); (try intro _ _ _); conv => whnf) | (apply loadP_cells; exact ceC; rfl; conv => whnf)))
  refine loop_pins (CallMono.acall hB) (σ := Nat × Option Addr × Nat × Option Addr × Nat × List (Int × Int))
    (fun s => [(3, .pointer (some ⟨H.size + 1, 0, none⟩)), (4, .slice s.2.1 (winL c r s.1).length s.2.2.1), (5, .slice s.2.2.2.1 s.2.2.2.2.2.length s.2.2.2.2.1), (7, .pointer (some ⟨H.size + 2, 0, none⟩)), (55, .slice c.pt c.nt c.ct), (56, .int .i64 (c.nt : Int)), (57, .int .i64 (s.1 : Int))])
    (fun s H' => Ext H2 H' ∧ Mine H2 H' 2 s.2.1 (winL c r s.1).length s.2.2.1 ((winL c r s.1).flatMap encS) ∧ Mine H2 H' 2 s.2.2.2.1 s.2.2.2.2.2.length s.2.2.2.2.1 (s.2.2.2.2.2.flatMap encS) ∧ s.2.2.2.2.2.length ≤ s.1 ∧ Apart s.2.1 s.2.2.2.1 ∧ s.1 ≤ c.nt) (fun s => c.nt - s.1) (0, none, 0, none, 0, []) ?_ ?_ ?_
  · exact ⟨rfl, rfl, rfl, rfl, rfl, rfl, rfl, trivial⟩
  · exact ⟨Ext.refl _, .nil, .nil, Nat.le_refl _, (fun a b h => by cases h), Nat.zero_le _⟩
  rintro ⟨t, ps, cs, pm, cm, lm⟩ E H' ⟨e', ms, mm, hlm, hap, ht⟩
  simp only at e' ms mm hlm hap ht
  have hwl := winL_len c r t
  (conv => whnf)
  refine ifP.mk (fun hlt => ?_) (fun hge => ?_)
  rotate_left
  · have : t = c.nt := by omega
    subst this
    (conv => whnf)
    exact h1 _ _ _ _ _ _ (e12.trans e') (ms.base e12.size)
  have hlt' : t < c.nt := by have h0 : (t : Int) < (c.nt : Int) := hlt; omega
  have i2 := e'.at' _ _ j2
  have i3 := e'.at' _ _ j3
  have cc := hc.ext (e12.trans e')
  obtain ⟨x, hx⟩ : ∃ x, c.depth[r.cell.toNat]? = some x := ⟨c.depth[r.cell.toNat]'(by omega), by simp⟩
  obtain ⟨y, hy⟩ : ∃ y, c.tide[t]? = some y := ⟨c.tide[t]'(by omega), by simp⟩
  obtain ⟨z, hz⟩ : ∃ z, c.swell[t]? = some z := ⟨c.swell[t]'(by omega), by simp⟩
  have bx := ok.depth x (List.mem_of_getElem? hx)
  have byy := ok.tide y (List.mem_of_getElem? hy)
  have bz := ok.swell z (List.mem_of_getElem? hz)
  have gx : c.depth.getD r.cell.toNat 0 = x := by simp [List.getD, hx]
  have gy : c.tide.getD t (0, 0) = y := by simp [List.getD, hy]
  have gz : c.swell.getD t 0 = z := by simp [List.getD, hz]
  have bd := okr.draught
  have cd := cc.depth
  have ct := cc.tide
  have cw := cc.swell
  (conv => whnf)
  (repeat (first | (refine numP.mk ?_ ?_; exact fN; conv => whnf) | ((first | apply loadP_get | apply loadP_agg' | apply storeP_getR); exact atT; rfl; conv => whnf) | ((first | apply loadP_cells0 | apply loadP_cellsA | apply idxP_sl); (first | exact ceC | exact slC); (first | rfl | assumption); (try intro _ _ _); conv => whnf) | (apply loadP_cells; exact ceC; rfl; conv => whnf)))
  generalize hH3 : (H'.push _).set _ _ = H3
  have e3 : Ext H' H3 := by rw [← hH3]; exact exT
  have k10 : At H3 H'.size (.cells false 0 (encS y)) := by rw [← hH3]; exact atT
  have sz3 : H3.size = H'.size + 1 := by rw [← hH3]; rfl
  clear hH3
  have l2 := e3.at' _ _ i2
  have l3 := e3.at' _ _ i3
  have ms3 := ms.ext e3
  have mm3 := mm.ext e3
  have e23 := e'.trans e3
  (repeat (first | (refine numP.mk ?_ ?_; exact fN; conv => whnf) | ((first | apply loadP_get | apply loadP_agg' | apply storeP_getR); exact atT; rfl; conv => whnf) | ((first | apply loadP_cells0 | apply loadP_cellsA | apply idxP_sl); (first | exact ceC | exact slC); (first | rfl | assumption); (try intro _ _ _); conv => whnf) | (apply loadP_cells; exact ceC; rfl; conv => whnf)))
  refine idxP_slj (i := r.cell.toNat) (by omega) (cd.ext e3) hx fun b o hcc => ?_
  (conv => whnf)
  (repeat (first | (refine numP.mk ?_ ?_; exact fN; conv => whnf) | ((first | apply loadP_get | apply loadP_agg' | apply storeP_getR); exact atT; rfl; conv => whnf) | ((first | apply loadP_cells0 | apply loadP_cellsA | apply idxP_sl); (first | exact ceC | exact slC); (first | rfl | assumption); (try intro _ _ _); conv => whnf) | (apply loadP_cells; exact ceC; rfl; conv => whnf)))
  refine ifP.mk (fun (a1 : r.surf < z) => ?_) (fun (a1 : ¬ r.surf < z) => ?_)
  · (conv => whnf)
    (repeat (first | (refine numP.mk ?_ ?_; exact fN; conv => whnf) | ((first | apply loadP_get | apply loadP_agg' | apply storeP_getR); exact atT; rfl; conv => whnf) | ((first | apply loadP_cells0 | apply loadP_cellsA | apply idxP_sl); (first | exact ceC | exact slC); (first | rfl | assumption); (try intro _ _ _); conv => whnf) | (apply loadP_cells; exact ceC; rfl; conv => whnf)))
    have no : ¬ okT c r t := fun h => by have := h.1; rw [gz] at this; omega
    refine ⟨(t + 1, ps, cs, pm, cm, lm), ⟨rfl, ?_, rfl, rfl, rfl, rfl, rfl, trivial⟩, ⟨e23, ?_, mm3, by simp only; omega, hap, by simp only; omega⟩, by simp only; omega⟩
    · simp only [winL_no no]; rfl
    · simp only [winL_no no]; exact ms3
  (conv => whnf)
  (repeat (first | (refine numP.mk ?_ ?_; exact fN; conv => whnf) | ((first | apply loadP_get | apply loadP_agg' | apply storeP_getR); exact atT; rfl; conv => whnf) | ((first | apply loadP_cells0 | apply loadP_cellsA | apply idxP_sl); (first | exact ceC | exact slC); (first | rfl | assumption); (try intro _ _ _); conv => whnf) | (apply loadP_cells; exact ceC; rfl; conv => whnf)))
  refine ifP.mk (fun a2 => ?_) (fun a2 => ?_)
  rotate_left
  · have no : ¬ okT c r t := fun h => by have h2 := h.2.1; rw [gy] at h2; unfold lowW at h2; rw [gx, gz] at h2; exact a2 h2
    (conv => whnf)
    (repeat (first | (refine numP.mk ?_ ?_; exact fN; conv => whnf) | ((first | apply loadP_get | apply loadP_agg' | apply storeP_getR); exact atT; rfl; conv => whnf) | ((first | apply loadP_cells0 | apply loadP_cellsA | apply idxP_sl); (first | exact ceC | exact slC); (first | rfl | assumption); (try intro _ _ _); conv => whnf) | (apply loadP_cells; exact ceC; rfl; conv => whnf)))
    refine ifP.mk (fun b1 => ?_) (fun b1 => ?_)
    · (conv => whnf)
      (repeat (first | (refine numP.mk ?_ ?_; exact fN; conv => whnf) | ((first | apply loadP_get | apply loadP_agg' | apply storeP_getR); exact atT; rfl; conv => whnf) | ((first | apply loadP_cells0 | apply loadP_cellsA | apply idxP_sl); (first | exact ceC | exact slC); (first | rfl | assumption); (try intro _ _ _); conv => whnf) | (apply loadP_cells; exact ceC; rfl; conv => whnf)))
      refine callP_fn ?_
      refine s175 hB e23 mm3 rfl (by show lm.length ≤ 100; omega) (by show 0 ≤ (t : Int) ∧ (t : Int) ≤ 100; omega) fun H6 p6 c6 e6 sz6 m6 q6 r6 => ?_
      (conv => whnf)
      (repeat (first | (refine numP.mk ?_ ?_; exact fN; conv => whnf) | ((first | apply loadP_get | apply loadP_agg' | apply storeP_getR); exact atT; rfl; conv => whnf) | ((first | apply loadP_cells0 | apply loadP_cellsA | apply idxP_sl); (first | exact ceC | exact slC); (first | rfl | assumption); (try intro _ _ _); conv => whnf) | (apply loadP_cells; exact ceC; rfl; conv => whnf)))
      have ap6 : Apart ps p6 := by
        rcases q6 with rfl | rfl
        · exact hap
        · exact fun a b ha hb he => by cases hb; have := (ms3).lt a ha; simp only at he; omega
      refine ⟨(t + 1, ps, cs, p6, c6, growL lm t), ⟨rfl, (by simp only [winL_no no]; rfl), rfl, rfl, rfl, rfl, rfl, trivial⟩, ⟨e6, ?_, m6, ?_, ap6, by simp only; omega⟩, by simp only; omega⟩
      · simp only [winL_no no]; exact (ms3).keep r6 (Apart.symm hap)
      · have := growL_len lm t; simp only; omega
    · (conv => whnf)
      (repeat (first | (refine numP.mk ?_ ?_; exact fN; conv => whnf) | ((first | apply loadP_get | apply loadP_agg' | apply storeP_getR); exact atT; rfl; conv => whnf) | ((first | apply loadP_cells0 | apply loadP_cellsA | apply idxP_sl); (first | exact ceC | exact slC); (first | rfl | assumption); (try intro _ _ _); conv => whnf) | (apply loadP_cells; exact ceC; rfl; conv => whnf)))
      refine ⟨(t + 1, ps, cs, pm, cm, lm), ⟨rfl, (by simp only [winL_no no]; rfl), rfl, rfl, rfl, rfl, rfl, trivial⟩, ⟨e23, ?_, mm3, by simp only; omega, hap, by simp only; omega⟩, by simp only; omega⟩
      simp only [winL_no no]; exact ms3
  have a2' : lowW c r t ≤ (c.tide.getD t (0, 0)).1 := by unfold lowW; rw [gx, gy, gz]; exact a2
  (conv => whnf)
  (repeat (first | (refine numP.mk ?_ ?_; exact fN; conv => whnf) | ((first | apply loadP_get | apply loadP_agg' | apply storeP_getR); exact atT; rfl; conv => whnf) | ((first | apply loadP_cells0 | apply loadP_cellsA | apply idxP_sl); (first | exact ceC | exact slC); (first | rfl | assumption); (try intro _ _ _); conv => whnf) | (apply loadP_cells; exact ceC; rfl; conv => whnf)))
  refine ifP.mk (fun (a3 : y.2 ≤ r.most) => ?_) (fun (a3 : ¬ y.2 ≤ r.most) => ?_)
  rotate_left
  · have no : ¬ okT c r t := fun h => by have h2 := h.2.2; rw [gy] at h2; exact a3 h2
    (conv => whnf)
    (repeat (first | (refine numP.mk ?_ ?_; exact fN; conv => whnf) | ((first | apply loadP_get | apply loadP_agg' | apply storeP_getR); exact atT; rfl; conv => whnf) | ((first | apply loadP_cells0 | apply loadP_cellsA | apply idxP_sl); (first | exact ceC | exact slC); (first | rfl | assumption); (try intro _ _ _); conv => whnf) | (apply loadP_cells; exact ceC; rfl; conv => whnf)))
    refine ifP.mk (fun b1 => ?_) (fun b1 => ?_)
    · (conv => whnf)
      (repeat (first | (refine numP.mk ?_ ?_; exact fN; conv => whnf) | ((first | apply loadP_get | apply loadP_agg' | apply storeP_getR); exact atT; rfl; conv => whnf) | ((first | apply loadP_cells0 | apply loadP_cellsA | apply idxP_sl); (first | exact ceC | exact slC); (first | rfl | assumption); (try intro _ _ _); conv => whnf) | (apply loadP_cells; exact ceC; rfl; conv => whnf)))
      refine callP_fn ?_
      refine s175 hB e23 mm3 rfl (by show lm.length ≤ 100; omega) (by show 0 ≤ (t : Int) ∧ (t : Int) ≤ 100; omega) fun H6 p6 c6 e6 sz6 m6 q6 r6 => ?_
      (conv => whnf)
      (repeat (first | (refine numP.mk ?_ ?_; exact fN; conv => whnf) | ((first | apply loadP_get | apply loadP_agg' | apply storeP_getR); exact atT; rfl; conv => whnf) | ((first | apply loadP_cells0 | apply loadP_cellsA | apply idxP_sl); (first | exact ceC | exact slC); (first | rfl | assumption); (try intro _ _ _); conv => whnf) | (apply loadP_cells; exact ceC; rfl; conv => whnf)))
      have ap6 : Apart ps p6 := by
        rcases q6 with rfl | rfl
        · exact hap
        · exact fun a b ha hb he => by cases hb; have := (ms3).lt a ha; simp only at he; omega
      refine ⟨(t + 1, ps, cs, p6, c6, growL lm t), ⟨rfl, (by simp only [winL_no no]; rfl), rfl, rfl, rfl, rfl, rfl, trivial⟩, ⟨e6, ?_, m6, ?_, ap6, by simp only; omega⟩, by simp only; omega⟩
      · simp only [winL_no no]; exact (ms3).keep r6 (Apart.symm hap)
      · have := growL_len lm t; simp only; omega
    · (conv => whnf)
      (repeat (first | (refine numP.mk ?_ ?_; exact fN; conv => whnf) | ((first | apply loadP_get | apply loadP_agg' | apply storeP_getR); exact atT; rfl; conv => whnf) | ((first | apply loadP_cells0 | apply loadP_cellsA | apply idxP_sl); (first | exact ceC | exact slC); (first | rfl | assumption); (try intro _ _ _); conv => whnf) | (apply loadP_cells; exact ceC; rfl; conv => whnf)))
      refine ⟨(t + 1, ps, cs, pm, cm, lm), ⟨rfl, (by simp only [winL_no no]; rfl), rfl, rfl, rfl, rfl, rfl, trivial⟩, ⟨e23, ?_, mm3, by simp only; omega, hap, by simp only; omega⟩, by simp only; omega⟩
      simp only [winL_no no]; exact ms3
  have yes : okT c r t := ⟨by rw [gz]; omega, a2', by rw [gy]; exact a3⟩
  (conv => whnf)
  (repeat (first | (refine numP.mk ?_ ?_; exact fN; conv => whnf) | ((first | apply loadP_get | apply loadP_agg' | apply storeP_getR); exact atT; rfl; conv => whnf) | ((first | apply loadP_cells0 | apply loadP_cellsA | apply idxP_sl); (first | exact ceC | exact slC); (first | rfl | assumption); (try intro _ _ _); conv => whnf) | (apply loadP_cells; exact ceC; rfl; conv => whnf)))
  refine callP_fn ?_
  refine s175 hB e23 ms3 rfl (by show (winL c r t).length ≤ 100; omega) (by show 0 ≤ (t : Int) ∧ (t : Int) ≤ 100; omega) fun H5 p5 c5 e25 sz5 m5 q5 r5 => ?_
  have ap5 : Apart p5 pm := by
    rcases q5 with rfl | rfl
    · exact hap
    · exact fun a b ha hb he => by cases ha; have := mm3.lt b hb; simp only at he; omega
  have mm5 := mm3.keep r5 hap
  have n10 : ∀ a, ps = some a → a.block ≠ H'.size := fun a ha => by have := ms.lt a ha; omega
  have k15 := r5 _ _ k10 n10
  have nn : ∀ d, d < H2.size → ∀ a, ps = some a → a.block ≠ d := fun d hd a ha => by have := ms.ge a ha; omega
  have l25 := e25.at' _ _ j2
  have l35 := e25.at' _ _ j3
  (conv => whnf)
  (repeat (first | (refine numP.mk ?_ ?_; exact fN; conv => whnf) | ((first | apply loadP_get | apply loadP_agg' | apply storeP_getR); exact atT; rfl; conv => whnf) | ((first | apply loadP_cells0 | apply loadP_cellsA | apply idxP_sl); (first | exact ceC | exact slC); (first | rfl | assumption); (try intro _ _ _); conv => whnf) | (apply loadP_cells; exact ceC; rfl; conv => whnf)))
  refine ifP.mk (fun b1 => ?_) (fun b1 => ?_)
  · (conv => whnf)
    (repeat (first | (refine numP.mk ?_ ?_; exact fN; conv => whnf) | ((first | apply loadP_get | apply loadP_agg' | apply storeP_getR); exact atT; rfl; conv => whnf) | ((first | apply loadP_cells0 | apply loadP_cellsA | apply idxP_sl); (first | exact ceC | exact slC); (first | rfl | assumption); (try intro _ _ _); conv => whnf) | (apply loadP_cells; exact ceC; rfl; conv => whnf)))
    refine callP_fn ?_
    refine s175 hB e25 mm5 rfl (by show lm.length ≤ 100; omega) (by show 0 ≤ (t : Int) ∧ (t : Int) ≤ 100; omega) fun H6 p6 c6 e6 sz6 m6 q6 r6 => ?_
    (conv => whnf)
    (repeat (first | (refine numP.mk ?_ ?_; exact fN; conv => whnf) | ((first | apply loadP_get | apply loadP_agg' | apply storeP_getR); exact atT; rfl; conv => whnf) | ((first | apply loadP_cells0 | apply loadP_cellsA | apply idxP_sl); (first | exact ceC | exact slC); (first | rfl | assumption); (try intro _ _ _); conv => whnf) | (apply loadP_cells; exact ceC; rfl; conv => whnf)))
    have ap6 : Apart p5 p6 := by
      rcases q6 with rfl | rfl
      · exact ap5
      · exact fun a b ha hb he => by cases hb; have := (m5).lt a ha; simp only at he; omega
    refine ⟨(t + 1, p5, c5, p6, c6, growL lm t), ⟨rfl, (by simp only [winL_yes yes]; rfl), rfl, rfl, rfl, rfl, rfl, trivial⟩, ⟨e6, ?_, m6, ?_, ap6, by simp only; omega⟩, by simp only; omega⟩
    · simp only [winL_yes yes]; exact (m5).keep r6 (Apart.symm ap5)
    · have := growL_len lm t; simp only; omega
  · (conv => whnf)
    (repeat (first | (refine numP.mk ?_ ?_; exact fN; conv => whnf) | ((first | apply loadP_get | apply loadP_agg' | apply storeP_getR); exact atT; rfl; conv => whnf) | ((first | apply loadP_cells0 | apply loadP_cellsA | apply idxP_sl); (first | exact ceC | exact slC); (first | rfl | assumption); (try intro _ _ _); conv => whnf) | (apply loadP_cells; exact ceC; rfl; conv => whnf)))
    refine ⟨(t + 1, p5, c5, pm, cm, lm), ⟨rfl, (by simp only [winL_yes yes]; rfl), rfl, rfl, rfl, rfl, rfl, trivial⟩, ⟨e25, ?_, mm5, by simp only; omega, ap5, by simp only; omega⟩, by simp only; omega⟩
    simp only [winL_yes yes]; exact m5
end LV
