/- Part of the proof of this claim: text V1. -/
import Derived.Test.YtfcpgeanbklleaaGreatDoorW1
set_option linter.unusedSectionVars false
set_option linter.unusedSimpArgs false
set_option linter.unusedVariables false
namespace LV
open Go Ab
set_option maxRecDepth 100000

/-- A chart as it lies in cells. -/
structure Cht where
  wide : Int
  high : Int
  pd : Option Addr
  nd : Nat
  cd : Nat
  pt : Option Addr
  nt : Nat
  ct : Nat
  pw : Option Addr
  nw : Nat
  cw : Nat
  depth : List Int
  tide : List (Int × Int)
  swell : List Int

def encC (c : Cht) : List Value := [.int .i64 c.wide, .int .i64 c.high, .slice c.pd c.nd c.cd, .slice c.pt c.nt c.ct, .slice c.pw c.nw c.cw]

/-- The chart's memory. -/
structure ChtAt (H : Heap) (c : Cht) : Prop where
  depth : SlP H 1 encI c.pd c.nd c.depth
  tide : SlP H 2 encS c.pt c.nt c.tide
  swell : SlP H 1 encI c.pw c.nw c.swell

theorem ChtAt.ext {H H' : Heap} {c : Cht} (h : ChtAt H c) (he : Ext H H') : ChtAt H' c := ⟨h.depth.ext he, h.tide.ext he, h.swell.ext he⟩

structure ChtOk (c : Cht) : Prop where
  wide : 1 ≤ c.wide ∧ c.wide ≤ 12
  high : 1 ≤ c.high ∧ c.high ≤ 12
  nd : (c.nd : Int) = c.wide * c.high
  nt : 1 ≤ c.nt ∧ c.nt ≤ 60
  nw : c.nw = c.nt
  depth : ∀ x ∈ c.depth, -1000 ≤ x ∧ x ≤ 1000
  tide : ∀ x ∈ c.tide, 0 ≤ x.1 ∧ x.1 ≤ x.2 ∧ x.2 ≤ 200
  swell : ∀ x ∈ c.swell, 0 ≤ x ∧ x ≤ 100

theorem ifP_y {c : Prop} {K : Value → Prop} (h : c) (k : K (.bool true)) : ifP c K := ifP.mk (fun _ => k) (fun n => absurd h n)
theorem ifP_n {c : Prop} {K : Value → Prop} (h : ¬ c) (k : K (.bool false)) : ifP c K := ifP.mk (fun y => absurd y h) (fun _ => k)

theorem mul_bound {a b : Int} (h : 1 ≤ a ∧ a ≤ 12) (k : 1 ≤ b ∧ b ≤ 12) : 1 ≤ a * b ∧ a * b ≤ 144 := by
  have h1 : a * b ≤ 12 * b := Int.mul_le_mul_of_nonneg_right h.2 (by omega)
  have h2 : 1 * b ≤ a * b := Int.mul_le_mul_of_nonneg_right h.1 (by omega)
  omega

theorem ChtOk.cells {c : Cht} (h : ChtOk c) : 1 ≤ c.nd ∧ c.nd ≤ 144 := by
  have := mul_bound h.wide h.high
  have := h.nd
  omega

variable {B : CallPred} (hB : BaseMono B)
include hB

theorem s62 {a b c : Int} {H : Heap} {R : Value → Heap → Prop} (h1 : b ≤ a → a ≤ c → R (.bool true) H) (h2 : ¬ (b ≤ a ∧ a ≤ c) → R (.bool false) H) : ACall AP B (.fn 62) [.int .i64 a, .int .i64 b, .int .i64 c] H R := by
  (refine run_fn hB (a := a62) ap62 (by decide +kernel) rfl (by decide) ?_; conv => whnf)
  refine ⟨fun hc => ?_, fun hc => ?_⟩ <;> conv => whnf
  · refine ⟨fun hd => ?_, fun hd => ?_⟩ <;> conv => whnf
    · exact h1 hc hd
    · exact h2 fun h => hd h.2
  · exact h2 fun h => hc h.1

theorem s60 {a b c : Int} {H : Heap} {R : Value → Heap → Prop} (h1 : b ≤ a → a ≤ c → R (.bool true) H) (h2 : ¬ (b ≤ a ∧ a ≤ c) → R (.bool false) H) : ACall AP B (.fn 60) [.int .i64 a, .int .i64 b, .int .i64 c] H R := by
  (refine run_fn hB (a := a60) ap60 (by decide +kernel) rfl (by decide) ?_; conv => whnf)
  refine ⟨fun hc => ?_, fun hc => ?_⟩ <;> conv => whnf
  · refine ⟨fun hd => ?_, fun hd => ?_⟩ <;> conv => whnf
    · exact h1 hc hd
    · exact h2 fun h => hd h.2
  · exact h2 fun h => hc h.1

theorem s71 {a b c : Int} {H : Heap} {R : Value → Heap → Prop} (h1 : b ≤ a → a ≤ c → R (.bool true) H) (h2 : ¬ (b ≤ a ∧ a ≤ c) → R (.bool false) H) : ACall AP B (.fn 71) [.int .i64 a, .int .i64 b, .int .i64 c] H R := by
  (refine run_fn hB (a := a71) ap71 (by decide +kernel) rfl (by decide) ?_; conv => whnf)
  refine ⟨fun hc => ?_, fun hc => ?_⟩ <;> conv => whnf
  · refine ⟨fun hd => ?_, fun hd => ?_⟩ <;> conv => whnf
    · exact h1 hc hd
    · exact h2 fun h => hd h.2
  · exact h2 fun h => hc h.1

theorem s155 {a b c : Int} {H : Heap} {R : Value → Heap → Prop} (h1 : b ≤ a → a ≤ c → R (.bool true) H) (h2 : ¬ (b ≤ a ∧ a ≤ c) → R (.bool false) H) : ACall AP B (.fn 155) [.int .i64 a, .int .i64 b, .int .i64 c] H R := by
  (refine run_fn hB (a := a155) ap155 (by decide +kernel) rfl (by decide) ?_; conv => whnf)
  refine ⟨fun hc => ?_, fun hc => ?_⟩ <;> conv => whnf
  · refine ⟨fun hd => ?_, fun hd => ?_⟩ <;> conv => whnf
    · exact h1 hc hd
    · exact h2 fun h => hd h.2
  · exact h2 fun h => hc h.1

theorem s57 {a : Int} {H : Heap} {R : Value → Heap → Prop} (h1 : 1 ≤ a → a ≤ 100 → R (.bool true) H) (h2 : ¬ (1 ≤ a ∧ a ≤ 100) → R (.bool false) H) : ACall AP B (.fn 57) [.int .i64 a] H R := by
  (refine run_fn hB (a := a57) ap57 (by decide +kernel) rfl (by decide) ?_; conv => whnf)
  exact callP_fn (s62 hB h1 h2)

theorem s56 {c : Cht} {H : Heap} {R : Value → Heap → Prop} (hc : ChtAt H c) (h1 : ∀ H', Ext H H' → ChtOk c → R (.int .i64 0) H') (h2 : ∀ H', Ext H H' → ¬ ChtOk c → R (.int .i64 10) H') :
    ACall AP B (.fn 56) [.agg ⟨encC c⟩] H R := by
  have ld := hc.depth.len
  have lt := hc.tide.len
  have lw := hc.swell.len
  (refine run_fn hB (a := a56) ap56 (by decide +kernel) rfl (by decide) ?_; conv => whnf)
  (repeat (first | (refine numP.mk ?_ ?_; exact fN; conv => whnf) | ((first | apply loadP_get | apply loadP_agg' | apply storeP_getR); exact atT; rfl; conv => whnf) | ((first | apply loadP_cells0 | apply loadP_cellsA | apply idxP_sl); (first | exact ceC | exact slC); (first | rfl | assumption); (try intro _ _ _); conv => whnf) | (apply loadP_cells; exact ceC; rfl; conv => whnf)))
  refine callP_fn (s62 hB (fun a1 a2 => ?_) (fun a1 => ?_))
  rotate_left
  · (conv => whnf)
    exact h2 _ exT fun hk => a1 hk.wide
  (conv => whnf)
  (repeat (first | (refine numP.mk ?_ ?_; exact fN; conv => whnf) | ((first | apply loadP_get | apply loadP_agg' | apply storeP_getR); exact atT; rfl; conv => whnf) | ((first | apply loadP_cells0 | apply loadP_cellsA | apply idxP_sl); (first | exact ceC | exact slC); (first | rfl | assumption); (try intro _ _ _); conv => whnf) | (apply loadP_cells; exact ceC; rfl; conv => whnf)))
  refine callP_fn (s62 hB (fun a3 a4 => ?_) (fun a3 => ?_))
  rotate_left
  · (conv => whnf)
    exact h2 _ exT fun hk => a3 hk.high
  have hm := mul_bound ⟨a1, a2⟩ ⟨a3, a4⟩
  (conv => whnf)
  (repeat (first | (refine numP.mk ?_ ?_; exact fN; conv => whnf) | ((first | apply loadP_get | apply loadP_agg' | apply storeP_getR); exact atT; rfl; conv => whnf) | ((first | apply loadP_cells0 | apply loadP_cellsA | apply idxP_sl); (first | exact ceC | exact slC); (first | rfl | assumption); (try intro _ _ _); conv => whnf) | (apply loadP_cells; exact ceC; rfl; conv => whnf)))
  refine ifP.mk (fun (a5 : (c.nd : Int) ≠ c.wide * c.high) => ?_) (fun a5 => ?_)
  · (conv => whnf)
    exact h2 _ exT fun hk => a5 hk.nd
  (conv => whnf)
  (repeat (first | (refine numP.mk ?_ ?_; exact fN; conv => whnf) | ((first | apply loadP_get | apply loadP_agg' | apply storeP_getR); exact atT; rfl; conv => whnf) | ((first | apply loadP_cells0 | apply loadP_cellsA | apply idxP_sl); (first | exact ceC | exact slC); (first | rfl | assumption); (try intro _ _ _); conv => whnf) | (apply loadP_cells; exact ceC; rfl; conv => whnf)))
  refine callP_fn (s62 hB (fun a6 a7 => ?_) (fun a6 => ?_))
  rotate_left
  · (conv => whnf)
    exact h2 _ exT fun hk => a6 (by have := hk.nt; omega)
  (conv => whnf)
  (repeat (first | (refine numP.mk ?_ ?_; exact fN; conv => whnf) | ((first | apply loadP_get | apply loadP_agg' | apply storeP_getR); exact atT; rfl; conv => whnf) | ((first | apply loadP_cells0 | apply loadP_cellsA | apply idxP_sl); (first | exact ceC | exact slC); (first | rfl | assumption); (try intro _ _ _); conv => whnf) | (apply loadP_cells; exact ceC; rfl; conv => whnf)))
  refine ifP.mk (fun (a8 : (c.nw : Int) ≠ (c.nt : Int)) => ?_) (fun a8 => ?_)
  · (conv => whnf)
    exact h2 _ exT fun hk => a8 (by rw [hk.nw])
  (conv => whnf)
  generalize hH : H.push _ = H1
  have hE : Ext H H1 := by rw [← hH]; exact exT
  have hA : At H1 H.size (.cells false 0 (encC c)) := by rw [← hH]; exact At.self
  have hc1 := hc.ext hE
  have cd := hc1.depth
  have ct := hc1.tide
  have cw := hc1.swell
  refine loop_pins (CallMono.acall hB) (σ := Nat) (fun i => [(1, .pointer (some ⟨H.size, 0, none⟩)), (3, .int .i64 (i : Int))])
    (fun i H' => H' = H1 ∧ i ≤ c.nd ∧ ∀ k x, k < i → c.depth[k]? = some x → -1000 ≤ x ∧ x ≤ 1000) (fun i => c.nd - i) 0 ?_ ?_ ?_
  · exact ⟨rfl, rfl, trivial⟩
  · exact ⟨rfl, by simp, by simp⟩
  rintro i E H' ⟨rfl, k1, k2⟩
  (conv => whnf)
  (repeat (first | (refine numP.mk ?_ ?_; exact fN; conv => whnf) | ((first | apply loadP_get | apply loadP_agg' | apply storeP_getR); exact atT; rfl; conv => whnf) | ((first | apply loadP_cells0 | apply loadP_cellsA | apply idxP_sl); (first | exact ceC | exact slC); (first | rfl | assumption); (try intro _ _ _); conv => whnf) | (apply loadP_cells; exact ceC; rfl; conv => whnf)))
  refine ifP.mk (fun hlt => ?_) (fun hge => ?_)
  · (conv => whnf)
    obtain ⟨x, hx⟩ : ∃ x, c.depth[i]? = some x := ⟨c.depth[i], by simp⟩
    have hmem := List.mem_of_getElem? hx
    (repeat (first | (refine numP.mk ?_ ?_; exact fN; conv => whnf) | ((first | apply loadP_get | apply loadP_agg' | apply storeP_getR); exact atT; rfl; conv => whnf) | ((first | apply loadP_cells0 | apply loadP_cellsA | apply idxP_sl); (first | exact ceC | exact slC); (first | rfl | assumption); (try intro _ _ _); conv => whnf) | (apply loadP_cells; exact ceC; rfl; conv => whnf)))
    refine callP_fn (s62 hB (fun b1 b2 => ?_) (fun b1 => ?_))
    · (conv => whnf)
      (repeat (first | (refine numP.mk ?_ ?_; exact fN; conv => whnf) | ((first | apply loadP_get | apply loadP_agg' | apply storeP_getR); exact atT; rfl; conv => whnf) | ((first | apply loadP_cells0 | apply loadP_cellsA | apply idxP_sl); (first | exact ceC | exact slC); (first | rfl | assumption); (try intro _ _ _); conv => whnf) | (apply loadP_cells; exact ceC; rfl; conv => whnf)))
      refine ⟨i + 1, ⟨rfl, rfl, trivial⟩, ⟨rfl, by omega, ?_⟩, by omega⟩
      intro k h hk hh
      by_cases hki : k = i
      · subst hki; rw [hx] at hh; cases hh; exact ⟨b1, b2⟩
      · exact k2 k h (by omega) hh
    · (conv => whnf)
      exact h2 _ hE fun hk => b1 (hk.depth x hmem)
  · have hdep : ∀ x ∈ c.depth, -1000 ≤ x ∧ x ≤ 1000 := by
      intro x hx
      obtain ⟨k, hk1, hk2⟩ := List.getElem_of_mem hx
      exact k2 k x (by omega) (by rw [List.getElem?_eq_getElem hk1, hk2])
    (conv => whnf)
    refine loop_pins (CallMono.acall hB) (σ := Nat) (fun i => [(1, .pointer (some ⟨H.size, 0, none⟩)), (4, .int .i64 (i : Int))])
      (fun i H2 => H2 = H' ∧ i ≤ c.nt ∧ (∀ k x, k < i → c.tide[k]? = some x → 0 ≤ x.1 ∧ x.1 ≤ x.2 ∧ x.2 ≤ 200) ∧ (∀ k x, k < i → c.swell[k]? = some x → 0 ≤ x ∧ x ≤ 100)) (fun i => c.nt - i) 0 ?_ ?_ ?_
    · exact ⟨rfl, rfl, trivial⟩
    · exact ⟨rfl, by simp, by simp, by simp⟩
    rintro i E H2 ⟨rfl, j1, j2, j3⟩
    (conv => whnf)
    (repeat (first | (refine numP.mk ?_ ?_; exact fN; conv => whnf) | ((first | apply loadP_get | apply loadP_agg' | apply storeP_getR); exact atT; rfl; conv => whnf) | ((first | apply loadP_cells0 | apply loadP_cellsA | apply idxP_sl); (first | exact ceC | exact slC); (first | rfl | assumption); (try intro _ _ _); conv => whnf) | (apply loadP_cells; exact ceC; rfl; conv => whnf)))
    refine ifP.mk (fun hlt => ?_) (fun hge => ?_)
    · (conv => whnf)
      obtain ⟨x, hx⟩ : ∃ x, c.tide[i]? = some x := ⟨c.tide[i], by simp⟩
      have hmem := List.mem_of_getElem? hx
      obtain ⟨y, hy⟩ : ∃ y, c.swell[i]? = some y := ⟨c.swell[i]'(by omega), by simp⟩
      have hmem2 := List.mem_of_getElem? hy
      (repeat (first | (refine numP.mk ?_ ?_; exact fN; conv => whnf) | ((first | apply loadP_get | apply loadP_agg' | apply storeP_getR); exact atT; rfl; conv => whnf) | ((first | apply loadP_cells0 | apply loadP_cellsA | apply idxP_sl); (first | exact ceC | exact slC); (first | rfl | assumption); (try intro _ _ _); conv => whnf) | (apply loadP_cells; exact ceC; rfl; conv => whnf)))
      refine callP_fn (s62 hB (fun b1 b2 => ?_) (fun b1 => ?_))
      rotate_left
      · (conv => whnf)
        exact h2 _ hE fun hk => b1 (by have := hk.tide x hmem; omega)
      (conv => whnf)
      (repeat (first | (refine numP.mk ?_ ?_; exact fN; conv => whnf) | ((first | apply loadP_get | apply loadP_agg' | apply storeP_getR); exact atT; rfl; conv => whnf) | ((first | apply loadP_cells0 | apply loadP_cellsA | apply idxP_sl); (first | exact ceC | exact slC); (first | rfl | assumption); (try intro _ _ _); conv => whnf) | (apply loadP_cells; exact ceC; rfl; conv => whnf)))
      refine ifP.mk (fun b3 => ?_) (fun b3 => ?_)
      · (conv => whnf)
        exact h2 _ hE fun hk => by have := hk.tide x hmem; omega
      (conv => whnf)
      (repeat (first | (refine numP.mk ?_ ?_; exact fN; conv => whnf) | ((first | apply loadP_get | apply loadP_agg' | apply storeP_getR); exact atT; rfl; conv => whnf) | ((first | apply loadP_cells0 | apply loadP_cellsA | apply idxP_sl); (first | exact ceC | exact slC); (first | rfl | assumption); (try intro _ _ _); conv => whnf) | (apply loadP_cells; exact ceC; rfl; conv => whnf)))
      refine callP_fn (s62 hB (fun b4 b5 => ?_) (fun b4 => ?_))
      rotate_left
      · (conv => whnf)
        exact h2 _ hE fun hk => b4 (hk.swell y hmem2)
      (conv => whnf)
      (repeat (first | (refine numP.mk ?_ ?_; exact fN; conv => whnf) | ((first | apply loadP_get | apply loadP_agg' | apply storeP_getR); exact atT; rfl; conv => whnf) | ((first | apply loadP_cells0 | apply loadP_cellsA | apply idxP_sl); (first | exact ceC | exact slC); (first | rfl | assumption); (try intro _ _ _); conv => whnf) | (apply loadP_cells; exact ceC; rfl; conv => whnf)))
      refine ⟨i + 1, ⟨rfl, rfl, trivial⟩, ⟨rfl, by omega, ?_, ?_⟩, by omega⟩
      · intro k h hk hh
        by_cases hki : k = i
        · subst hki; rw [hx] at hh; cases hh; exact ⟨b1, b2, by omega⟩
        · exact j2 k h (by omega) hh
      · intro k h hk hh
        by_cases hki : k = i
        · subst hki; rw [hy] at hh; cases hh; exact ⟨b4, b5⟩
        · exact j3 k h (by omega) hh
    · (conv => whnf)
      refine h1 _ hE ⟨⟨a1, a2⟩, ⟨a3, a4⟩, by omega, by omega, by omega, hdep, fun x hx => ?_, fun x hx => ?_⟩
      · obtain ⟨k, hk1, hk2⟩ := List.getElem_of_mem hx
        exact j2 k x (by omega) (by rw [List.getElem?_eq_getElem hk1, hk2])
      · obtain ⟨k, hk1, hk2⟩ := List.getElem_of_mem hx
        exact j3 k x (by omega) (by rw [List.getElem?_eq_getElem hk1, hk2])
end LV
namespace LV
open Go Ab
set_option maxRecDepth 100000

structure Cls where
  draught : Int
  seas : Int
  move : Int
  idle : Int
  reserve : Int
  seats : Int
  moment : Int

def encK (b : Cls) : List Value := [.int .i64 b.draught, .int .i64 b.seas, .int .i64 b.move, .int .i64 b.idle, .int .i64 b.reserve, .int .i64 b.seats, .int .i64 b.moment]

structure ClsOk (b : Cls) : Prop where
  draught : 1 ≤ b.draught ∧ b.draught ≤ 100
  seas : 0 ≤ b.seas ∧ b.seas ≤ 100
  move : 1 ≤ b.move ∧ b.move ≤ 100
  idle : 0 ≤ b.idle ∧ b.idle ≤ b.move
  reserve : 0 ≤ b.reserve ∧ b.reserve ≤ 5000
  seats : 0 ≤ b.seats ∧ b.seats ≤ 40
  moment : 0 ≤ b.moment ∧ b.moment ≤ 1000000

structure Rmp where
  cell : Int
  draught : Int
  least : Int
  most : Int
  surf : Int

def encR (r : Rmp) : List Value := [.int .i64 r.cell, .int .i64 r.draught, .int .i64 r.least, .int .i64 r.most, .int .i64 r.surf]

structure RmpOk (c : Cht) (r : Rmp) : Prop where
  cell : 0 ≤ r.cell ∧ r.cell < c.nd
  draught : 1 ≤ r.draught ∧ r.draught ≤ 100
  least : 0 ≤ r.least ∧ r.least ≤ r.most
  most : r.most ≤ 200
  surf : 0 ≤ r.surf ∧ r.surf ≤ 100

variable {B : CallPred} (hB : BaseMono B)
include hB

theorem s73 {b : Cls} {H : Heap} {R : Value → Heap → Prop} (h1 : ∀ H', Ext H H' → ClsOk b → R (.int .i64 0) H') (h2 : ∀ H', Ext H H' → R (.int .i64 50) H') :
    ACall AP B (.fn 73) [.agg ⟨encK b⟩] H R := by
  (refine run_fn hB (a := a73) ap73 (by decide +kernel) rfl (by decide) ?_; conv => whnf)
  (repeat (first | (refine numP.mk ?_ ?_; exact fN; conv => whnf) | ((first | apply loadP_get | apply loadP_agg' | apply storeP_getR); exact atT; rfl; conv => whnf) | ((first | apply loadP_cells0 | apply loadP_cellsA | apply idxP_sl); (first | exact ceC | exact slC); (first | rfl | assumption); (try intro _ _ _); conv => whnf) | (apply loadP_cells; exact ceC; rfl; conv => whnf)))
  refine callP_fn (s57 hB (fun a1 a2 => ?_) (fun a1 => ?_))
  rotate_left
  · (conv => whnf)
    exact h2 _ exT
  (conv => whnf)
  (repeat (first | (refine numP.mk ?_ ?_; exact fN; conv => whnf) | ((first | apply loadP_get | apply loadP_agg' | apply storeP_getR); exact atT; rfl; conv => whnf) | ((first | apply loadP_cells0 | apply loadP_cellsA | apply idxP_sl); (first | exact ceC | exact slC); (first | rfl | assumption); (try intro _ _ _); conv => whnf) | (apply loadP_cells; exact ceC; rfl; conv => whnf)))
  refine callP_fn (s60 hB (fun a3 a4 => ?_) (fun a1 => ?_))
  rotate_left
  · (conv => whnf)
    exact h2 _ exT
  (conv => whnf)
  (repeat (first | (refine numP.mk ?_ ?_; exact fN; conv => whnf) | ((first | apply loadP_get | apply loadP_agg' | apply storeP_getR); exact atT; rfl; conv => whnf) | ((first | apply loadP_cells0 | apply loadP_cellsA | apply idxP_sl); (first | exact ceC | exact slC); (first | rfl | assumption); (try intro _ _ _); conv => whnf) | (apply loadP_cells; exact ceC; rfl; conv => whnf)))
  refine callP_fn (s60 hB (fun a5 a6 => ?_) (fun a1 => ?_))
  rotate_left
  · (conv => whnf)
    exact h2 _ exT
  (conv => whnf)
  (repeat (first | (refine numP.mk ?_ ?_; exact fN; conv => whnf) | ((first | apply loadP_get | apply loadP_agg' | apply storeP_getR); exact atT; rfl; conv => whnf) | ((first | apply loadP_cells0 | apply loadP_cellsA | apply idxP_sl); (first | exact ceC | exact slC); (first | rfl | assumption); (try intro _ _ _); conv => whnf) | (apply loadP_cells; exact ceC; rfl; conv => whnf)))
  refine callP_fn (s60 hB (fun a7 a8 => ?_) (fun a1 => ?_))
  rotate_left
  · (conv => whnf)
    exact h2 _ exT
  (conv => whnf)
  (repeat (first | (refine numP.mk ?_ ?_; exact fN; conv => whnf) | ((first | apply loadP_get | apply loadP_agg' | apply storeP_getR); exact atT; rfl; conv => whnf) | ((first | apply loadP_cells0 | apply loadP_cellsA | apply idxP_sl); (first | exact ceC | exact slC); (first | rfl | assumption); (try intro _ _ _); conv => whnf) | (apply loadP_cells; exact ceC; rfl; conv => whnf)))
  refine callP_fn (s60 hB (fun a9 b1 => ?_) (fun a1 => ?_))
  rotate_left
  · (conv => whnf)
    exact h2 _ exT
  (conv => whnf)
  (repeat (first | (refine numP.mk ?_ ?_; exact fN; conv => whnf) | ((first | apply loadP_get | apply loadP_agg' | apply storeP_getR); exact atT; rfl; conv => whnf) | ((first | apply loadP_cells0 | apply loadP_cellsA | apply idxP_sl); (first | exact ceC | exact slC); (first | rfl | assumption); (try intro _ _ _); conv => whnf) | (apply loadP_cells; exact ceC; rfl; conv => whnf)))
  refine callP_fn (s60 hB (fun b2 b3 => ?_) (fun a1 => ?_))
  rotate_left
  · (conv => whnf)
    exact h2 _ exT
  (conv => whnf)
  (repeat (first | (refine numP.mk ?_ ?_; exact fN; conv => whnf) | ((first | apply loadP_get | apply loadP_agg' | apply storeP_getR); exact atT; rfl; conv => whnf) | ((first | apply loadP_cells0 | apply loadP_cellsA | apply idxP_sl); (first | exact ceC | exact slC); (first | rfl | assumption); (try intro _ _ _); conv => whnf) | (apply loadP_cells; exact ceC; rfl; conv => whnf)))
  refine callP_fn (s60 hB (fun b4 b5 => ?_) (fun a1 => ?_))
  rotate_left
  · (conv => whnf)
    exact h2 _ exT
  (conv => whnf)
  exact h1 _ exT ⟨⟨a1, a2⟩, ⟨a3, a4⟩, ⟨a5, a6⟩, ⟨a7, a8⟩, ⟨a9, b1⟩, ⟨b2, b3⟩, ⟨b4, b5⟩⟩

theorem s31 {c : Cht} {H : Heap} {R : Value → Heap → Prop} (ok : ChtOk c) (h1 : ∀ H', Ext H H' → R (.int .i64 (c.wide * c.high)) H') :
    ACall AP B (.fn 31) [.agg ⟨encC c⟩] H R := by
  have hm := mul_bound ok.wide ok.high
  (refine run_fn hB (a := a31) ap31 (by decide +kernel) rfl (by decide) ?_; conv => whnf)
  (repeat (first | (refine numP.mk ?_ ?_; exact fN; conv => whnf) | ((first | apply loadP_get | apply loadP_agg' | apply storeP_getR); exact atT; rfl; conv => whnf) | ((first | apply loadP_cells0 | apply loadP_cellsA | apply idxP_sl); (first | exact ceC | exact slC); (first | rfl | assumption); (try intro _ _ _); conv => whnf) | (apply loadP_cells; exact ceC; rfl; conv => whnf)))
  exact h1 _ exT

theorem s25 {c : Cht} {x : Int} {H : Heap} {R : Value → Heap → Prop} (ok : ChtOk c) (h1 : ∀ H', Ext H H' → 0 ≤ x → x < c.nd → R (.bool true) H') (h2 : ∀ H', Ext H H' → ¬ (0 ≤ x ∧ x < c.nd) → R (.bool false) H') :
    ACall AP B (.fn 25) [.agg ⟨encC c⟩, .int .i64 x] H R := by
  have hm := mul_bound ok.wide ok.high
  have hn := ok.nd
  (refine run_fn hB (a := a25) ap25 (by decide +kernel) rfl (by decide) ?_; conv => whnf)
  (repeat (first | (refine numP.mk ?_ ?_; exact fN; conv => whnf) | ((first | apply loadP_get | apply loadP_agg' | apply storeP_getR); exact atT; rfl; conv => whnf) | ((first | apply loadP_cells0 | apply loadP_cellsA | apply idxP_sl); (first | exact ceC | exact slC); (first | rfl | assumption); (try intro _ _ _); conv => whnf) | (apply loadP_cells; exact ceC; rfl; conv => whnf)))
  refine callP_fn (s31 hB ok fun H1 e1 => ?_)
  (conv => whnf)
  (repeat (first | (refine numP.mk ?_ ?_; exact fN; conv => whnf) | ((first | apply loadP_get | apply loadP_agg' | apply storeP_getR); exact atT; rfl; conv => whnf) | ((first | apply loadP_cells0 | apply loadP_cellsA | apply idxP_sl); (first | exact ceC | exact slC); (first | rfl | assumption); (try intro _ _ _); conv => whnf) | (apply loadP_cells; exact ceC; rfl; conv => whnf)))
  refine callP_fn (s62 hB (fun a1 a2 => ?_) (fun a1 => ?_))
  · (conv => whnf)
    exact h1 _ (Ext.trans exT e1) a1 (by omega)
  · (conv => whnf)
    exact h2 _ (Ext.trans exT e1) (by omega)

theorem s74 {c : Cht} {r : Rmp} {H : Heap} {R : Value → Heap → Prop} (ok : ChtOk c) (h1 : ∀ H', Ext H H' → RmpOk c r → R (.bool true) H') (h2 : ∀ H', Ext H H' → R (.bool false) H') :
    ACall AP B (.fn 74) [.agg ⟨encC c⟩, .agg ⟨encR r⟩] H R := by
  (refine run_fn hB (a := a74) ap74 (by decide +kernel) rfl (by decide) ?_; conv => whnf)
  (repeat (first | (refine numP.mk ?_ ?_; exact fN; conv => whnf) | ((first | apply loadP_get | apply loadP_agg' | apply storeP_getR); exact atT; rfl; conv => whnf) | ((first | apply loadP_cells0 | apply loadP_cellsA | apply idxP_sl); (first | exact ceC | exact slC); (first | rfl | assumption); (try intro _ _ _); conv => whnf) | (apply loadP_cells; exact ceC; rfl; conv => whnf)))
  generalize hH : (H.push _).push _ = H1
  have e1 : Ext H H1 := by rw [← hH]; exact exT
  have k2 : At H1 (H.size + 1) (.cells false 0 (encR r)) := by rw [← hH]; exact atT
  refine callP_fn (s25 hB ok (fun H2 e2 a1 a2 => ?_) (fun H2 e2 a1 => ?_))
  rotate_left
  · (conv => whnf)
    exact h2 _ (e1.trans e2)
  have k3 := e2.at' _ _ k2
  (conv => whnf)
  (repeat (first | (refine numP.mk ?_ ?_; exact fN; conv => whnf) | ((first | apply loadP_get | apply loadP_agg' | apply storeP_getR); exact atT; rfl; conv => whnf) | ((first | apply loadP_cells0 | apply loadP_cellsA | apply idxP_sl); (first | exact ceC | exact slC); (first | rfl | assumption); (try intro _ _ _); conv => whnf) | (apply loadP_cells; exact ceC; rfl; conv => whnf)))
  refine callP_fn (s57 hB (fun a3 a4 => ?_) (fun a3 => ?_))
  rotate_left
  · (conv => whnf)
    exact h2 _ (e1.trans e2)
  (conv => whnf)
  (repeat (first | (refine numP.mk ?_ ?_; exact fN; conv => whnf) | ((first | apply loadP_get | apply loadP_agg' | apply storeP_getR); exact atT; rfl; conv => whnf) | ((first | apply loadP_cells0 | apply loadP_cellsA | apply idxP_sl); (first | exact ceC | exact slC); (first | rfl | assumption); (try intro _ _ _); conv => whnf) | (apply loadP_cells; exact ceC; rfl; conv => whnf)))
  refine callP_fn (s62 hB (fun a5 a6 => ?_) (fun a3 => ?_))
  rotate_left
  · (conv => whnf)
    exact h2 _ (e1.trans e2)
  (conv => whnf)
  (repeat (first | (refine numP.mk ?_ ?_; exact fN; conv => whnf) | ((first | apply loadP_get | apply loadP_agg' | apply storeP_getR); exact atT; rfl; conv => whnf) | ((first | apply loadP_cells0 | apply loadP_cellsA | apply idxP_sl); (first | exact ceC | exact slC); (first | rfl | assumption); (try intro _ _ _); conv => whnf) | (apply loadP_cells; exact ceC; rfl; conv => whnf)))
  refine ifP.mk (fun a7 => ?_) (fun a7 => ?_)
  rotate_left
  · (conv => whnf)
    exact h2 _ (e1.trans e2)
  (conv => whnf)
  (repeat (first | (refine numP.mk ?_ ?_; exact fN; conv => whnf) | ((first | apply loadP_get | apply loadP_agg' | apply storeP_getR); exact atT; rfl; conv => whnf) | ((first | apply loadP_cells0 | apply loadP_cellsA | apply idxP_sl); (first | exact ceC | exact slC); (first | rfl | assumption); (try intro _ _ _); conv => whnf) | (apply loadP_cells; exact ceC; rfl; conv => whnf)))
  refine callP_fn (s62 hB (fun a8 a9 => ?_) (fun a3 => ?_))
  rotate_left
  · (conv => whnf)
    exact h2 _ (e1.trans e2)
  (conv => whnf)
  exact h1 _ (e1.trans e2) ⟨⟨a1, a2⟩, ⟨a3, a4⟩, ⟨a5, a6⟩, a7, ⟨a8, a9⟩⟩

/-- CheckRamp. -/
theorem s28 {c : Cht} {b : Cls} {r : Rmp} {H : Heap} {R : Value → Heap → Prop} (hc : ChtAt H c) (h1 : ∀ H', Ext H H' → ChtOk c → ClsOk b → RmpOk c r → R (.int .i64 0) H') (h2 : ∀ H' e, Ext H H' → e ≠ 0 → R (.int .i64 e) H') :
    ACall AP B (.fn 28) [.agg ⟨encC c⟩, .agg ⟨encK b⟩, .agg ⟨encR r⟩] H R := by
  (refine run_fn hB (a := a28) ap28 (by decide +kernel) rfl (by decide) ?_; conv => whnf)
  (repeat (first | (refine numP.mk ?_ ?_; exact fN; conv => whnf) | ((first | apply loadP_get | apply loadP_agg' | apply storeP_getR); exact atT; rfl; conv => whnf) | ((first | apply loadP_cells0 | apply loadP_cellsA | apply idxP_sl); (first | exact ceC | exact slC); (first | rfl | assumption); (try intro _ _ _); conv => whnf) | (apply loadP_cells; exact ceC; rfl; conv => whnf)))
  generalize hH : ((H.push _).push _).push _ = H1
  have e1 : Ext H H1 := by rw [← hH]; exact exT
  have k1 : At H1 H.size (.cells false 0 (encC c)) := by rw [← hH]; exact atT
  have k2 : At H1 (H.size + 1) (.cells false 0 (encK b)) := by rw [← hH]; exact atT
  have k3 : At H1 (H.size + 1 + 1) (.cells false 0 (encR r)) := by rw [← hH]; exact atT
  refine callP_fn (s56 hB (hc.ext e1) (fun H2 e2 ok => ?_) (fun H2 e2 ok => ?_))
  rotate_left
  · (conv => whnf)
    (refine ifP_y (by decide) ?_; conv => whnf)
    exact h2 _ _ (e1.trans e2) (by decide)
  (conv => whnf)
  (refine ifP_n (by decide) ?_; conv => whnf)
  have j1 := e2.at' _ _ k1
  have j2 := e2.at' _ _ k2
  have j3 := e2.at' _ _ k3
  (repeat (first | (refine numP.mk ?_ ?_; exact fN; conv => whnf) | ((first | apply loadP_get | apply loadP_agg' | apply storeP_getR); exact atT; rfl; conv => whnf) | ((first | apply loadP_cells0 | apply loadP_cellsA | apply idxP_sl); (first | exact ceC | exact slC); (first | rfl | assumption); (try intro _ _ _); conv => whnf) | (apply loadP_cells; exact ceC; rfl; conv => whnf)))
  refine callP_fn (s73 hB (fun H3 e3 okb => ?_) (fun H3 e3 => ?_))
  rotate_left
  · (conv => whnf)
    (refine ifP_y (by decide) ?_; conv => whnf)
    exact h2 _ _ ((e1.trans e2).trans e3) (by decide)
  (conv => whnf)
  (refine ifP_n (by decide) ?_; conv => whnf)
  have i1 := e3.at' _ _ j1
  have i3 := e3.at' _ _ j3
  (repeat (first | (refine numP.mk ?_ ?_; exact fN; conv => whnf) | ((first | apply loadP_get | apply loadP_agg' | apply storeP_getR); exact atT; rfl; conv => whnf) | ((first | apply loadP_cells0 | apply loadP_cellsA | apply idxP_sl); (first | exact ceC | exact slC); (first | rfl | assumption); (try intro _ _ _); conv => whnf) | (apply loadP_cells; exact ceC; rfl; conv => whnf)))
  refine callP_fn (s74 hB ok (fun H4 e4 okr => ?_) (fun H4 e4 => ?_))
  rotate_left
  · (conv => whnf)
    exact h2 _ _ (((e1.trans e2).trans e3).trans e4) (by decide)
  (conv => whnf)
  exact h1 _ (((e1.trans e2).trans e3).trans e4) ok okb okr

/-- Vast: some answer. -/
theorem s27 {c : Cht} {H : Heap} {R : Value → Heap → Prop} (hc : ChtAt H c) (h1 : ∀ H' b, Ext H H' → R (.bool b) H') :
    ACall AP B (.fn 27) [.agg ⟨encC c⟩] H R := by
  (refine run_fn hB (a := a27) ap27 (by decide +kernel) rfl (by decide) ?_; conv => whnf)
  (repeat (first | (refine numP.mk ?_ ?_; exact fN; conv => whnf) | ((first | apply loadP_get | apply loadP_agg' | apply storeP_getR); exact atT; rfl; conv => whnf) | ((first | apply loadP_cells0 | apply loadP_cellsA | apply idxP_sl); (first | exact ceC | exact slC); (first | rfl | assumption); (try intro _ _ _); conv => whnf) | (apply loadP_cells; exact ceC; rfl; conv => whnf)))
  refine ifP.mk (fun a1 => ?_) (fun a1 => ?_)
  · (conv => whnf)
    exact h1 _ _ exT
  (conv => whnf)
  (repeat (first | (refine numP.mk ?_ ?_; exact fN; conv => whnf) | ((first | apply loadP_get | apply loadP_agg' | apply storeP_getR); exact atT; rfl; conv => whnf) | ((first | apply loadP_cells0 | apply loadP_cellsA | apply idxP_sl); (first | exact ceC | exact slC); (first | rfl | assumption); (try intro _ _ _); conv => whnf) | (apply loadP_cells; exact ceC; rfl; conv => whnf)))
  refine ifP.mk (fun a1 => ?_) (fun a1 => ?_)
  · (conv => whnf)
    exact h1 _ _ exT
  (conv => whnf)
  (repeat (first | (refine numP.mk ?_ ?_; exact fN; conv => whnf) | ((first | apply loadP_get | apply loadP_agg' | apply storeP_getR); exact atT; rfl; conv => whnf) | ((first | apply loadP_cells0 | apply loadP_cellsA | apply idxP_sl); (first | exact ceC | exact slC); (first | rfl | assumption); (try intro _ _ _); conv => whnf) | (apply loadP_cells; exact ceC; rfl; conv => whnf)))
  refine ifP.mk (fun a1 => ?_) (fun a1 => ?_)
  · (conv => whnf)
    exact h1 _ _ exT
  (conv => whnf)
  (repeat (first | (refine numP.mk ?_ ?_; exact fN; conv => whnf) | ((first | apply loadP_get | apply loadP_agg' | apply storeP_getR); exact atT; rfl; conv => whnf) | ((first | apply loadP_cells0 | apply loadP_cellsA | apply idxP_sl); (first | exact ceC | exact slC); (first | rfl | assumption); (try intro _ _ _); conv => whnf) | (apply loadP_cells; exact ceC; rfl; conv => whnf)))
  generalize hH : H.push _ = H1
  have e1 : Ext H H1 := by rw [← hH]; exact exT
  have k1 : At H1 H.size (.cells false 0 (encC c)) := by rw [← hH]; exact atT
  refine callP_fn (s56 hB (hc.ext e1) (fun H2 e2 ok => ?_) (fun H2 e2 ok => ?_))
  rotate_left
  · (conv => whnf)
    (refine ifP_n (by decide) ?_; conv => whnf)
    exact h1 _ _ (e1.trans e2)
  have j1 := e2.at' _ _ k1
  have hm := mul_bound ok.wide ok.high
  (conv => whnf)
  (refine ifP_y (by decide) ?_; conv => whnf)
  (repeat (first | (refine numP.mk ?_ ?_; exact fN; conv => whnf) | ((first | apply loadP_get | apply loadP_agg' | apply storeP_getR); exact atT; rfl; conv => whnf) | ((first | apply loadP_cells0 | apply loadP_cellsA | apply idxP_sl); (first | exact ceC | exact slC); (first | rfl | assumption); (try intro _ _ _); conv => whnf) | (apply loadP_cells; exact ceC; rfl; conv => whnf)))
  refine ifP.mk (fun a1 => ?_) (fun a1 => ?_)
  · (conv => whnf)
    exact h1 _ _ (e1.trans e2)
  (conv => whnf)
  (repeat (first | (refine numP.mk ?_ ?_; exact fN; conv => whnf) | ((first | apply loadP_get | apply loadP_agg' | apply storeP_getR); exact atT; rfl; conv => whnf) | ((first | apply loadP_cells0 | apply loadP_cellsA | apply idxP_sl); (first | exact ceC | exact slC); (first | rfl | assumption); (try intro _ _ _); conv => whnf) | (apply loadP_cells; exact ceC; rfl; conv => whnf)))
  refine ifP.mk (fun a1 => ?_) (fun a1 => ?_)
  · (conv => whnf)
    exact h1 _ _ (e1.trans e2)
  · (conv => whnf)
    exact h1 _ _ (e1.trans e2)
end LV
namespace LV
open Go Ab
set_option maxRecDepth 100000

variable {B : CallPred} (hB : BaseMono B)

/-- What a call back of numbers answers, at a heap. -/
def AsksH (B : CallPred) (H : Heap) (g : FuncId) (captured : List Value) (P : Int → Prop) : Prop :=
  ∀ (x : Int) (R : Value → Heap → Prop), (P x → R (.bool true) H) → (¬ P x → R (.bool false) H) → ACall AP B (.fn g) ([] ++ [.int .i64 x] ++ captured) H R

def AsksS (B : CallPred) (g : FuncId) (P : Int × Int → Prop) : Prop :=
  ∀ (x : Int × Int) (H : Heap) (R : Value → Heap → Prop), (∀ H', Ext H H' → P x → R (.bool true) H') → (∀ H', Ext H H' → ¬ P x → R (.bool false) H') → ACall AP B (.fn g) ([] ++ [.agg ⟨encS x⟩] ++ []) H R

include hB

theorem s207h {g : FuncId} {captured : List Value} {P : Int → Prop} {p : Option Addr} {n c : Nat} {l : List Int} {H : Heap} {R : Value → Heap → Prop} (hg : AsksH B H g captured P) (hl : SlP H 1 encI p n l) (hn : n < 1000000)
    (hx : ∀ x ∈ l, ¬ P x) (h2 : R (.int .i64 (-1)) H) :
    ACall AP B (.fn 207) [.slice p n c, .func (.func g) ⟨[]⟩ ⟨captured⟩] H R := by
  have hlen := hl.len
  (refine run_fn hB (a := a207) ap207 (by decide +kernel) rfl (by decide) ?_; conv => whnf)
  refine loop_pins (CallMono.acall hB) (σ := Nat) (fun i => [(0, .slice p n c), (1, .func (.func g) ⟨[]⟩ ⟨captured⟩), (7, .int .i64 (n : Int)), (8, .int .i64 (i : Int))])
    (fun i H' => H' = H ∧ i ≤ n) (fun i => n - i) 0 ?_ ?_ ?_
  · exact ⟨rfl, rfl, rfl, rfl, trivial⟩
  · exact ⟨rfl, by simp⟩
  rintro i E H ⟨rfl, k1⟩
  (conv => whnf)
  refine ifP.mk (fun hlt => ?_) (fun hge => ?_)
  · (conv => whnf)
    obtain ⟨x, hy⟩ : ∃ x, l[i]? = some x := ⟨l[i], by simp⟩
    (repeat (first | (refine numP.mk ?_ ?_; exact fN; conv => whnf) | ((first | apply loadP_get | apply loadP_agg' | apply storeP_getR); exact atT; rfl; conv => whnf) | ((first | apply loadP_cells0 | apply loadP_cellsA | apply idxP_sl); (first | exact ceC | exact slC); (first | rfl | assumption); (try intro _ _ _); conv => whnf) | (apply loadP_cells; exact ceC; rfl; conv => whnf)))
    refine callP_fn ?_
    refine hg x _ (fun b1 => ?_) (fun b1 => ?_)
    · exact absurd b1 (hx x (List.mem_of_getElem? hy))
    · (conv => whnf)
      (repeat (first | (refine numP.mk ?_ ?_; exact fN; conv => whnf) | ((first | apply loadP_get | apply loadP_agg' | apply storeP_getR); exact atT; rfl; conv => whnf) | ((first | apply loadP_cells0 | apply loadP_cellsA | apply idxP_sl); (first | exact ceC | exact slC); (first | rfl | assumption); (try intro _ _ _); conv => whnf) | (apply loadP_cells; exact ceC; rfl; conv => whnf)))
      exact ⟨i + 1, ⟨rfl, rfl, rfl, rfl, trivial⟩, ⟨rfl, by omega⟩, by omega⟩
  · (conv => whnf)
    exact h2

theorem s158h {g : FuncId} {captured : List Value} {P : Int → Prop} {p : Option Addr} {n c : Nat} {l : List Int} {H : Heap} {R : Value → Heap → Prop} (hg : AsksH B H g captured P) (hl : SlP H 1 encI p n l) (hn : n < 1000000)
    (hx : ∀ x ∈ l, ¬ P x) (h2 : R (.bool false) H) :
    ACall AP B (.fn 158) [.slice p n c, .func (.func g) ⟨[]⟩ ⟨captured⟩] H R := by
  (refine run_fn hB (a := a158) ap158 (by decide +kernel) rfl (by decide) ?_; conv => whnf)
  refine callP_fn ?_
  refine s207h hB hg hl hn hx ?_
  (conv => whnf)
  (refine ifP_n (by decide) ?_; conv => whnf)
  exact h2

theorem s208h {g : FuncId} {P : Int × Int → Prop} {p : Option Addr} {n c : Nat} {l : List (Int × Int)} {H : Heap} {R : Value → Heap → Prop} (hg : AsksS B g P) (hl : SlP H 2 encS p n l) (hn : n < 1000000)
    (hx : ∀ x ∈ l, ¬ P x) (h2 : ∀ H', Ext H H' → R (.int .i64 (-1)) H') :
    ACall AP B (.fn 208) [.slice p n c, .func (.func g) ⟨[]⟩ ⟨[]⟩] H R := by
  have hlen := hl.len
  (refine run_fn hB (a := a208) ap208 (by decide +kernel) rfl (by decide) ?_; conv => whnf)
  refine loop_pins (CallMono.acall hB) (σ := Nat) (fun i => [(0, .slice p n c), (1, .func (.func g) ⟨[]⟩ ⟨[]⟩), (7, .int .i64 (n : Int)), (8, .int .i64 (i : Int))])
    (fun i H' => Ext H H' ∧ i ≤ n) (fun i => n - i) 0 ?_ ?_ ?_
  · exact ⟨rfl, rfl, rfl, rfl, trivial⟩
  · exact ⟨Ext.refl _, by simp⟩
  rintro i E H1 ⟨e1, k1⟩
  have hl1 := hl.ext e1
  (conv => whnf)
  refine ifP.mk (fun hlt => ?_) (fun hge => ?_)
  · (conv => whnf)
    obtain ⟨x, hy⟩ : ∃ x, l[i]? = some x := ⟨l[i], by simp⟩
    (repeat (first | (refine numP.mk ?_ ?_; exact fN; conv => whnf) | ((first | apply loadP_get | apply loadP_agg' | apply storeP_getR); exact atT; rfl; conv => whnf) | ((first | apply loadP_cells0 | apply loadP_cellsA | apply idxP_sl); (first | exact ceC | exact slC); (first | rfl | assumption); (try intro _ _ _); conv => whnf) | (apply loadP_cells; exact ceC; rfl; conv => whnf)))
    refine callP_fn ?_
    refine hg x _ _ (fun H2 e2 b1 => ?_) (fun H2 e2 b1 => ?_)
    · exact absurd b1 (hx x (List.mem_of_getElem? hy))
    · (conv => whnf)
      (repeat (first | (refine numP.mk ?_ ?_; exact fN; conv => whnf) | ((first | apply loadP_get | apply loadP_agg' | apply storeP_getR); exact atT; rfl; conv => whnf) | ((first | apply loadP_cells0 | apply loadP_cellsA | apply idxP_sl); (first | exact ceC | exact slC); (first | rfl | assumption); (try intro _ _ _); conv => whnf) | (apply loadP_cells; exact ceC; rfl; conv => whnf)))
      exact ⟨i + 1, ⟨rfl, rfl, rfl, rfl, trivial⟩, ⟨e1.trans e2, by omega⟩, by omega⟩
  · (conv => whnf)
    exact h2 _ e1

theorem s173h {g : FuncId} {P : Int × Int → Prop} {p : Option Addr} {n c : Nat} {l : List (Int × Int)} {H : Heap} {R : Value → Heap → Prop} (hg : AsksS B g P) (hl : SlP H 2 encS p n l) (hn : n < 1000000)
    (hx : ∀ x ∈ l, ¬ P x) (h2 : ∀ H', Ext H H' → R (.bool false) H') :
    ACall AP B (.fn 173) [.slice p n c, .func (.func g) ⟨[]⟩ ⟨[]⟩] H R := by
  (refine run_fn hB (a := a173) ap173 (by decide +kernel) rfl (by decide) ?_; conv => whnf)
  refine callP_fn ?_
  refine s208h hB hg hl hn hx fun H1 e1 => ?_
  (conv => whnf)
  (refine ifP_n (by decide) ?_; conv => whnf)
  exact h2 _ e1

theorem s170 {H : Heap} : AsksH B H 170 [] fun x => ¬ (-1000 ≤ x ∧ x ≤ 1000) := by
  intro x R h1 h2
  show ACall AP B (.fn 170) [.int .i64 x] H R
  (refine run_fn hB (a := a170) ap170 (by decide +kernel) rfl (by decide) ?_; conv => whnf)
  refine callP_fn (s155 hB (fun a1 a2 => ?_) (fun a1 => ?_))
  · (conv => whnf)
    exact h2 fun h => h ⟨a1, a2⟩
  · (conv => whnf)
    exact h1 a1

theorem s172 {H : Heap} : AsksH B H 172 [] fun x => ¬ (0 ≤ x ∧ x ≤ 100) := by
  intro x R h1 h2
  show ACall AP B (.fn 172) [.int .i64 x] H R
  (refine run_fn hB (a := a172) ap172 (by decide +kernel) rfl (by decide) ?_; conv => whnf)
  refine callP_fn (s155 hB (fun a1 a2 => ?_) (fun a1 => ?_))
  · (conv => whnf)
    exact h2 fun h => h ⟨a1, a2⟩
  · (conv => whnf)
    exact h1 a1

theorem s157 {H : Heap} : AsksH B H 157 [] fun x => ¬ (1 ≤ x ∧ x ≤ 100) := by
  intro x R h1 h2
  show ACall AP B (.fn 157) [.int .i64 x] H R
  (refine run_fn hB (a := a157) ap157 (by decide +kernel) rfl (by decide) ?_; conv => whnf)
  refine callP_fn (s155 hB (fun a1 a2 => ?_) (fun a1 => ?_))
  · (conv => whnf)
    exact h2 fun h => h ⟨a1, a2⟩
  · (conv => whnf)
    exact h1 a1

theorem s171 : AsksS B 171 fun x => ¬ (0 ≤ x.1 ∧ x.1 ≤ x.2 ∧ x.2 ≤ 200) := by
  intro x H R h1 h2
  show ACall AP B (.fn 171) [.agg ⟨encS x⟩] H R
  (refine run_fn hB (a := a171) ap171 (by decide +kernel) rfl (by decide) ?_; conv => whnf)
  (repeat (first | (refine numP.mk ?_ ?_; exact fN; conv => whnf) | ((first | apply loadP_get | apply loadP_agg' | apply storeP_getR); exact atT; rfl; conv => whnf) | ((first | apply loadP_cells0 | apply loadP_cellsA | apply idxP_sl); (first | exact ceC | exact slC); (first | rfl | assumption); (try intro _ _ _); conv => whnf) | (apply loadP_cells; exact ceC; rfl; conv => whnf)))
  refine ifP.mk (fun a1 => ?_) (fun a1 => ?_)
  · (conv => whnf)
    exact h1 _ exT (by omega)
  (conv => whnf)
  (repeat (first | (refine numP.mk ?_ ?_; exact fN; conv => whnf) | ((first | apply loadP_get | apply loadP_agg' | apply storeP_getR); exact atT; rfl; conv => whnf) | ((first | apply loadP_cells0 | apply loadP_cellsA | apply idxP_sl); (first | exact ceC | exact slC); (first | rfl | assumption); (try intro _ _ _); conv => whnf) | (apply loadP_cells; exact ceC; rfl; conv => whnf)))
  refine ifP.mk (fun a2 => ?_) (fun a2 => ?_)
  · (conv => whnf)
    exact h1 _ exT (by omega)
  (conv => whnf)
  (repeat (first | (refine numP.mk ?_ ?_; exact fN; conv => whnf) | ((first | apply loadP_get | apply loadP_agg' | apply storeP_getR); exact atT; rfl; conv => whnf) | ((first | apply loadP_cells0 | apply loadP_cellsA | apply idxP_sl); (first | exact ceC | exact slC); (first | rfl | assumption); (try intro _ _ _); conv => whnf) | (apply loadP_cells; exact ceC; rfl; conv => whnf)))
  refine ifP.mk (fun a3 => ?_) (fun a3 => ?_)
  · (conv => whnf)
    exact h1 _ exT (by omega)
  · (conv => whnf)
    exact h2 _ exT (by omega)

/-- Check of what is a chart. -/
theorem s118 {c : Cht} {H : Heap} {R : Value → Heap → Prop} (hc : ChtAt H c) (ok : ChtOk c) (h1 : ∀ H', Ext H H' → R (.int .i64 0) H') :
    ACall AP B (.fn 118) [.agg ⟨encC c⟩] H R := by
  have ld := hc.depth.len
  have lt := hc.tide.len
  have lw := hc.swell.len
  have hm := mul_bound ok.wide ok.high
  have okn := ok.nd
  have okt := ok.nt
  have okw := ok.nw
  (refine run_fn hB (a := a118) ap118 (by decide +kernel) rfl (by decide) ?_; conv => whnf)
  (repeat (first | (refine numP.mk ?_ ?_; exact fN; conv => whnf) | ((first | apply loadP_get | apply loadP_agg' | apply storeP_getR); exact atT; rfl; conv => whnf) | ((first | apply loadP_cells0 | apply loadP_cellsA | apply idxP_sl); (first | exact ceC | exact slC); (first | rfl | assumption); (try intro _ _ _); conv => whnf) | (apply loadP_cells; exact ceC; rfl; conv => whnf)))
  refine callP_fn (s155 hB (fun _ _ => ?_) (fun a1 => absurd ok.wide a1))
  (conv => whnf)
  (repeat (first | (refine numP.mk ?_ ?_; exact fN; conv => whnf) | ((first | apply loadP_get | apply loadP_agg' | apply storeP_getR); exact atT; rfl; conv => whnf) | ((first | apply loadP_cells0 | apply loadP_cellsA | apply idxP_sl); (first | exact ceC | exact slC); (first | rfl | assumption); (try intro _ _ _); conv => whnf) | (apply loadP_cells; exact ceC; rfl; conv => whnf)))
  refine callP_fn (s155 hB (fun _ _ => ?_) (fun a1 => absurd ok.high a1))
  (conv => whnf)
  (repeat (first | (refine numP.mk ?_ ?_; exact fN; conv => whnf) | ((first | apply loadP_get | apply loadP_agg' | apply storeP_getR); exact atT; rfl; conv => whnf) | ((first | apply loadP_cells0 | apply loadP_cellsA | apply idxP_sl); (first | exact ceC | exact slC); (first | rfl | assumption); (try intro _ _ _); conv => whnf) | (apply loadP_cells; exact ceC; rfl; conv => whnf)))
  refine ifP_n (fun h => h (show (c.nd : Int) = c.wide * c.high from okn)) ?_
  (conv => whnf)
  (repeat (first | (refine numP.mk ?_ ?_; exact fN; conv => whnf) | ((first | apply loadP_get | apply loadP_agg' | apply storeP_getR); exact atT; rfl; conv => whnf) | ((first | apply loadP_cells0 | apply loadP_cellsA | apply idxP_sl); (first | exact ceC | exact slC); (first | rfl | assumption); (try intro _ _ _); conv => whnf) | (apply loadP_cells; exact ceC; rfl; conv => whnf)))
  refine callP_fn (s155 hB (fun _ _ => ?_) (fun a1 => absurd (show (1 : Int) ≤ (c.nt : Int) ∧ (c.nt : Int) ≤ 60 by omega) a1))
  (conv => whnf)
  (repeat (first | (refine numP.mk ?_ ?_; exact fN; conv => whnf) | ((first | apply loadP_get | apply loadP_agg' | apply storeP_getR); exact atT; rfl; conv => whnf) | ((first | apply loadP_cells0 | apply loadP_cellsA | apply idxP_sl); (first | exact ceC | exact slC); (first | rfl | assumption); (try intro _ _ _); conv => whnf) | (apply loadP_cells; exact ceC; rfl; conv => whnf)))
  refine ifP_n (fun h => h (show (c.nw : Int) = (c.nt : Int) by omega)) ?_
  (conv => whnf)
  (repeat (first | (refine numP.mk ?_ ?_; exact fN; conv => whnf) | ((first | apply loadP_get | apply loadP_agg' | apply storeP_getR); exact atT; rfl; conv => whnf) | ((first | apply loadP_cells0 | apply loadP_cellsA | apply idxP_sl); (first | exact ceC | exact slC); (first | rfl | assumption); (try intro _ _ _); conv => whnf) | (apply loadP_cells; exact ceC; rfl; conv => whnf)))
  generalize hH : H.push _ = H1
  have e1 : Ext H H1 := by rw [← hH]; exact exT
  have k1 : At H1 H.size (.cells false 0 (encC c)) := by rw [← hH]; exact atT
  have c1 := hc.ext e1
  refine callP_fn ?_
  refine s158h hB (s170 hB) c1.depth (by omega) (fun x hx h => h (ok.depth x hx)) ?_
  (conv => whnf)
  (repeat (first | (refine numP.mk ?_ ?_; exact fN; conv => whnf) | ((first | apply loadP_get | apply loadP_agg' | apply storeP_getR); exact atT; rfl; conv => whnf) | ((first | apply loadP_cells0 | apply loadP_cellsA | apply idxP_sl); (first | exact ceC | exact slC); (first | rfl | assumption); (try intro _ _ _); conv => whnf) | (apply loadP_cells; exact ceC; rfl; conv => whnf)))
  refine callP_fn ?_
  refine s173h hB (s171 hB) c1.tide (by omega) (fun x hx h => h (ok.tide x hx)) fun H2 e2 => ?_
  have k2 := e2.at' _ _ k1
  have c2 := c1.ext e2
  (conv => whnf)
  (repeat (first | (refine numP.mk ?_ ?_; exact fN; conv => whnf) | ((first | apply loadP_get | apply loadP_agg' | apply storeP_getR); exact atT; rfl; conv => whnf) | ((first | apply loadP_cells0 | apply loadP_cellsA | apply idxP_sl); (first | exact ceC | exact slC); (first | rfl | assumption); (try intro _ _ _); conv => whnf) | (apply loadP_cells; exact ceC; rfl; conv => whnf)))
  refine callP_fn ?_
  refine s158h hB (s172 hB) c2.swell (by omega) (fun x hx h => h (ok.swell x hx)) ?_
  (conv => whnf)
  exact h1 _ (e1.trans e2)

def encBo (b : Bool) : List Value := [.bool b]

theorem s209 {p : Option Addr} {n c : Nat} {l : List Bool} {H : Heap} {R : Value → Heap → Prop} (hl : SlP H 1 encBo p n l) (hn : n < 1000000) (hx : ∀ x ∈ l, x = true) (h2 : R (.int .i64 (-1)) H) :
    ACall AP B (.fn 209) [.slice p n c, .bool false] H R := by
  have hlen := hl.len
  (refine run_fn hB (a := a209) ap209 (by decide +kernel) rfl (by decide) ?_; conv => whnf)
  refine loop_pins (CallMono.acall hB) (σ := Nat) (fun i => [(0, .slice p n c), (1, .bool false), (7, .int .i64 (n : Int)), (8, .int .i64 (i : Int))])
    (fun i H' => H' = H ∧ i ≤ n) (fun i => n - i) 0 ?_ ?_ ?_
  · exact ⟨rfl, rfl, rfl, rfl, trivial⟩
  · exact ⟨rfl, by simp⟩
  rintro i E H ⟨rfl, k1⟩
  (conv => whnf)
  refine ifP.mk (fun hlt => ?_) (fun hge => ?_)
  · (conv => whnf)
    obtain ⟨x, hy⟩ : ∃ x, l[i]? = some x := ⟨l[i], by simp⟩
    obtain rfl := hx x (List.mem_of_getElem? hy)
    (repeat (first | (refine numP.mk ?_ ?_; exact fN; conv => whnf) | ((first | apply loadP_get | apply loadP_agg' | apply storeP_getR); exact atT; rfl; conv => whnf) | ((first | apply loadP_cells0 | apply loadP_cellsA | apply idxP_sl); (first | exact ceC | exact slC); (first | rfl | assumption); (try intro _ _ _); conv => whnf) | (apply loadP_cells; exact ceC; rfl; conv => whnf)))
    exact ⟨i + 1, ⟨rfl, rfl, rfl, rfl, trivial⟩, ⟨rfl, by omega⟩, by omega⟩
  · (conv => whnf)
    exact h2

theorem s174 {p : Option Addr} {n c : Nat} {l : List Bool} {H : Heap} {R : Value → Heap → Prop} (hl : SlP H 1 encBo p n l) (hn : n < 1000000) (hx : ∀ x ∈ l, x = true) (h2 : R (.bool false) H) :
    ACall AP B (.fn 174) [.slice p n c, .bool false] H R := by
  (refine run_fn hB (a := a174) ap174 (by decide +kernel) rfl (by decide) ?_; conv => whnf)
  refine callP_fn ?_
  refine s209 hB hl hn hx ?_
  (conv => whnf)
  (refine ifP_n (by decide) ?_; conv => whnf)
  exact h2

/-- Check of what is a class. -/
theorem s119 {b : Cls} {H : Heap} {R : Value → Heap → Prop} (ok : ClsOk b) (h1 : ∀ H', Ext H H' → R (.int .i64 0) H') :
    ACall AP B (.fn 119) [.agg ⟨encK b⟩] H R := by
  (refine run_fn hB (a := a119) ap119 (by decide +kernel) rfl (by decide) ?_; conv => whnf)
  (repeat (first | (refine numP.mk ?_ ?_; exact fN; conv => whnf) | ((first | apply loadP_get | apply loadP_agg' | apply storeP_getR); exact atT; rfl; conv => whnf) | ((first | apply loadP_cells0 | apply loadP_cellsA | apply idxP_sl); (first | exact ceC | exact slC); (first | rfl | assumption); (try intro _ _ _); conv => whnf) | (apply loadP_cells; exact ceC; rfl; conv => whnf)))
  refine callP_fn (s71 hB (fun _ _ => ?_) (fun a1 => absurd ok.draught a1))
  (conv => whnf)
  (repeat (refine ⟨rfl, ?_⟩; (conv => whnf)))
  refine callP_fn (s71 hB (fun _ _ => ?_) (fun a1 => absurd ok.seas a1))
  (conv => whnf)
  (repeat (refine ⟨rfl, ?_⟩; (conv => whnf)))
  refine callP_fn (s71 hB (fun _ _ => ?_) (fun a1 => absurd ok.move a1))
  (conv => whnf)
  (repeat (refine ⟨rfl, ?_⟩; (conv => whnf)))
  refine callP_fn (s71 hB (fun _ _ => ?_) (fun a1 => absurd ok.idle a1))
  (conv => whnf)
  (repeat (refine ⟨rfl, ?_⟩; (conv => whnf)))
  refine callP_fn (s71 hB (fun _ _ => ?_) (fun a1 => absurd ok.reserve a1))
  (conv => whnf)
  (repeat (refine ⟨rfl, ?_⟩; (conv => whnf)))
  refine callP_fn (s71 hB (fun _ _ => ?_) (fun a1 => absurd ok.seats a1))
  (conv => whnf)
  (repeat (refine ⟨rfl, ?_⟩; (conv => whnf)))
  refine callP_fn (s71 hB (fun _ _ => ?_) (fun a1 => absurd ok.moment a1))
  (conv => whnf)
  (repeat (refine ⟨rfl, ?_⟩; (conv => whnf)))
  (repeat (first | (refine numP.mk ?_ ?_; exact fN; conv => whnf) | ((first | apply loadP_get | apply loadP_agg' | apply storeP_getR); exact atT; rfl; conv => whnf) | ((first | apply loadP_cells0 | apply loadP_cellsA | apply idxP_sl); (first | exact ceC | exact slC); (first | rfl | assumption); (try intro _ _ _); conv => whnf) | (apply loadP_cells; exact ceC; rfl; conv => whnf)))
  refine callP_fn ?_
  refine s174 hB (n := 7) (l := List.replicate 7 true) ?_ (by decide) (fun x hx => (List.mem_replicate.1 hx).2) ?_
  · exact Src.slP (l := List.replicate 7 true) (enc := encBo) (Src.ofAt (e := 0) (ro := false) (b := H.size + 1) (m := 7) (xs := (List.replicate 7 true).flatMap encBo) (At.setSelf (b := H.size + 1) (y := .cells false 0 ((List.replicate 7 true).flatMap encBo)) (by show H.size + 1 < H.size + 1 + 1; omega)) rfl) rfl (fun _ _ => rfl)
  · (conv => whnf)
    exact h1 _ exT
end LV
