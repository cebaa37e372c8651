/- Part of the proof of this claim: text V4. -/
import Derived.Test.YtfcpgeanbklleaaGreatDoorV1
set_option linter.unusedSectionVars false
set_option linter.unusedSimpArgs false
set_option linter.unusedVariables false
namespace LV
open Go Ab
set_option maxRecDepth 100000

def wyL : List Value := [.int .i64 1, .int .i64 1, .int .i64 0, .int .i64 0, .int .i64 1, .int .i64 1, .int .i64 (-1), .int .i64 0, .int .i64 1, .int .i64 (-1), .int .i64 (-1), .int .i64 0, .int .i64 (-1), .int .i64 0, .int .i64 (-1), .int .i64 0, .int .i64 1, .int .i64 (-1)]

theorem divs {a b : Int} (ha : 0 ≤ a) (hb : 1 ≤ b) : 0 ≤ a.tdiv b ∧ a.tdiv b ≤ a ∧ 0 ≤ a.tmod b ∧ a.tmod b < b := by
  rw [Int.tdiv_eq_ediv_of_nonneg ha, Int.tmod_eq_emod_of_nonneg ha]
  exact ⟨Int.ediv_nonneg ha (by omega), Int.ediv_le_self _ ha, Int.emod_nonneg _ (by omega), Int.emod_lt_of_pos _ (by omega)⟩

theorem row_bound {x y w h : Int} (hx : 0 ≤ x ∧ x ≤ w - 1) (hy : 0 ≤ y ∧ y ≤ h - 1) : 0 ≤ y * w ∧ y * w + x < w * h := by
  have h1 : y * w ≤ (h - 1) * w := Int.mul_le_mul_of_nonneg_right hy.2 (by omega)
  have h2 : 0 ≤ y * w := Int.mul_nonneg hy.1 (by omega)
  have h3 : (h - 1) * w = w * h - w := by rw [Int.sub_mul, Int.one_mul, Int.mul_comm]
  omega

variable {B : CallPred} (hB : BaseMono B)
include hB

theorem s154 {c : Cht} {bc : Nat} {H : Heap} (hb : At H bc (.cells false 0 (encC c))) (ok : ChtOk c) : AsksH B H 154 [.pointer (some ⟨bc, 0, none⟩)] fun x => ¬ (0 ≤ x ∧ x < c.nd) := by
  intro x R h1 h2
  have := ok.cells
  show ACall AP B (.fn 154) [.int .i64 x, .pointer (some ⟨bc, 0, none⟩)] H R
  (refine run_fn hB (a := a154) ap154 (by decide +kernel) rfl (by decide) ?_; conv => whnf)
  (repeat (first | (refine numP.mk ?_ ?_; exact fN; conv => whnf) | ((first | apply loadP_get | apply loadP_agg' | apply storeP_getR); exact atT; rfl; conv => whnf) | ((first | apply loadP_cells0 | apply loadP_cellsA | apply idxP_sl); (first | exact ceC | exact slC); (first | rfl | assumption); (try intro _ _ _); conv => whnf) | (apply loadP_cells; exact ceC; rfl; conv => whnf)))
  refine callP_fn (s155 hB (fun a1 a2 => ?_) (fun a1 => ?_))
  · (conv => whnf)
    exact h2 fun h => h ⟨a1, by omega⟩
  · (conv => whnf)
    exact h1 (by omega)

theorem s156 {c : Cht} {bc : Nat} {H : Heap} (hb : At H bc (.cells false 0 (encC c))) (ok : ChtOk c) : AsksH B H 156 [.pointer (some ⟨bc, 0, none⟩)] fun x => ¬ (0 ≤ x ∧ x < c.nt) := by
  intro x R h1 h2
  have := ok.nt
  show ACall AP B (.fn 156) [.int .i64 x, .pointer (some ⟨bc, 0, none⟩)] H R
  (refine run_fn hB (a := a156) ap156 (by decide +kernel) rfl (by decide) ?_; conv => whnf)
  (repeat (first | (refine numP.mk ?_ ?_; exact fN; conv => whnf) | ((first | apply loadP_get | apply loadP_agg' | apply storeP_getR); exact atT; rfl; conv => whnf) | ((first | apply loadP_cells0 | apply loadP_cellsA | apply idxP_sl); (first | exact ceC | exact slC); (first | rfl | assumption); (try intro _ _ _); conv => whnf) | (apply loadP_cells; exact ceC; rfl; conv => whnf)))
  refine callP_fn (s155 hB (fun a1 a2 => ?_) (fun a1 => ?_))
  · (conv => whnf)
    exact h2 fun h => h ⟨a1, by omega⟩
  · (conv => whnf)
    exact h1 (by omega)

/-- open of what is a chart, asked for what is there. -/
theorem s101 {c : Cht} {p1 p2 p3 : Option Addr} {n1 n2 n3 c1 c2 c3 : Nat} {l1 l2 l3 : List Int} {H : Heap} {R : Value → Heap → Prop} (hc : ChtAt H c) (ok : ChtOk c)
    (t1 : SlP H 1 encI p1 n1 l1) (t2 : SlP H 1 encI p2 n2 l2) (t3 : SlP H 1 encI p3 n3 l3) (m1 : n1 < 1000000) (m2 : n2 < 1000000) (m3 : n3 < 1000000)
    (o1 : ∀ x ∈ l1, 0 ≤ x ∧ x < c.nd) (o2 : ∀ x ∈ l2, 0 ≤ x ∧ x < c.nt) (o3 : ∀ x ∈ l3, 1 ≤ x ∧ x ≤ 100)
    (h1 : ∀ H', Ext H H' → R (.tuple ⟨[.agg ⟨encC c⟩, .int .i64 0]⟩) H') :
    ACall AP B (.fn 101) [.agg ⟨encC c⟩, .agg ⟨[.slice p1 n1 c1, .slice p2 n2 c2, .slice p3 n3 c3]⟩] H R := by
  (refine run_fn hB (a := a101) ap101 (by decide +kernel) rfl (by decide) ?_; conv => whnf)
  (repeat (first | (refine numP.mk ?_ ?_; exact fN; conv => whnf) | ((first | apply loadP_get | apply loadP_agg' | apply storeP_getR); exact atT; rfl; conv => whnf) | ((first | apply loadP_cells0 | apply loadP_cellsA | apply idxP_sl); (first | exact ceC | exact slC); (first | rfl | assumption); (try intro _ _ _); conv => whnf) | (apply loadP_cells; exact ceC; rfl; conv => whnf)))
  generalize hH : ((((H.push _).push _).push _).push _).set _ _ = H1
  have e1 : Ext H H1 := by rw [← hH]; exact exT
  have k1 : At H1 H.size (.cells false 0 (encC c)) := by rw [← hH]; exact atT
  have k2 : At H1 (H.size + 1) (.cells false 0 [.slice p1 n1 c1, .slice p2 n2 c2, .slice p3 n3 c3]) := by rw [← hH]; exact atT
  have k3 : At H1 (H.size + 2) (.cells false 0 [.int .i64 0, .int .i64 0, .slice none 0 0, .slice none 0 0, .slice none 0 0]) := by rw [← hH]; exact atT
  have k4 : At H1 (H.size + 3) (.cells false 0 (encC c)) := by rw [← hH]; exact atT
  refine callP_fn (s118 hB (hc.ext e1) ok fun H2 e2 => ?_)
  have j1 := e2.at' _ _ k1
  have j2 := e2.at' _ _ k2
  have j3 := e2.at' _ _ k3
  have j4 := e2.at' _ _ k4
  have e12 := e1.trans e2
  have hs3 := j3.lt
  (conv => whnf)
  (refine ifP_n (by decide) ?_; conv => whnf)
  (repeat (first | (refine numP.mk ?_ ?_; exact fN; conv => whnf) | ((first | apply loadP_get | apply loadP_agg' | apply storeP_getR); exact atT; rfl; conv => whnf) | ((first | apply loadP_cells0 | apply loadP_cellsA | apply idxP_sl); (first | exact ceC | exact slC); (first | rfl | assumption); (try intro _ _ _); conv => whnf) | (apply loadP_cells; exact ceC; rfl; conv => whnf)))
  refine callP_fn ?_
  refine s158h hB (s154 hB j1 ok) (t1.ext e12) m1 (fun x hx h => h (o1 x hx)) ?_
  (conv => whnf)
  (repeat (first | (refine numP.mk ?_ ?_; exact fN; conv => whnf) | ((first | apply loadP_get | apply loadP_agg' | apply storeP_getR); exact atT; rfl; conv => whnf) | ((first | apply loadP_cells0 | apply loadP_cellsA | apply idxP_sl); (first | exact ceC | exact slC); (first | rfl | assumption); (try intro _ _ _); conv => whnf) | (apply loadP_cells; exact ceC; rfl; conv => whnf)))
  refine callP_fn ?_
  refine s158h hB (s156 hB j1 ok) (t2.ext e12) m2 (fun x hx h => h (o2 x hx)) ?_
  (conv => whnf)
  (repeat (first | (refine numP.mk ?_ ?_; exact fN; conv => whnf) | ((first | apply loadP_get | apply loadP_agg' | apply storeP_getR); exact atT; rfl; conv => whnf) | ((first | apply loadP_cells0 | apply loadP_cellsA | apply idxP_sl); (first | exact ceC | exact slC); (first | rfl | assumption); (try intro _ _ _); conv => whnf) | (apply loadP_cells; exact ceC; rfl; conv => whnf)))
  refine callP_fn ?_
  refine s158h hB (s157 hB) (t3.ext e12) m3 (fun x hx h => h (o3 x hx)) ?_
  (conv => whnf)
  (repeat (first | (refine numP.mk ?_ ?_; exact fN; conv => whnf) | ((first | apply loadP_get | apply loadP_agg' | apply storeP_getR); exact atT; rfl; conv => whnf) | ((first | apply loadP_cells0 | apply loadP_cellsA | apply idxP_sl); (first | exact ceC | exact slC); (first | rfl | assumption); (try intro _ _ _); conv => whnf) | (apply loadP_cells; exact ceC; rfl; conv => whnf)))
  exact h1 _ exT

theorem s176 {c : Cht} {cell tick : Nat} {H : Heap} {R : Value → Heap → Prop} (hc : ChtAt H c) (ok : ChtOk c) (hcell : cell < c.nd) (ht : tick < c.nt)
    (h1 : ∀ H' x, Ext H H' → R (.agg ⟨encS x⟩) H') :
    ACall AP B (.fn 176) [.agg ⟨encC c⟩, .int .i64 (cell : Int), .int .i64 (tick : Int)] H R := by
  have ld := hc.depth.len
  have lt := hc.tide.len
  have lw := hc.swell.len
  have okw := ok.nw
  have cd := hc.depth
  have ct := hc.tide
  have cw := hc.swell
  obtain ⟨x, hx⟩ : ∃ x, c.depth[cell]? = some x := ⟨c.depth[cell], by simp⟩
  obtain ⟨y, hy⟩ : ∃ y, c.tide[tick]? = some y := ⟨c.tide[tick], by simp⟩
  obtain ⟨z, hz⟩ : ∃ z, c.swell[tick]? = some z := ⟨c.swell[tick]'(by omega), by simp⟩
  have bx := ok.depth x (List.mem_of_getElem? hx)
  have byy := ok.tide y (List.mem_of_getElem? hy)
  have bz := ok.swell z (List.mem_of_getElem? hz)
  (refine run_fn hB (a := a176) ap176 (by decide +kernel) rfl (by decide) ?_; conv => whnf)
  (repeat (first | (refine numP.mk ?_ ?_; exact fN; conv => whnf) | ((first | apply loadP_get | apply loadP_agg' | apply storeP_getR); exact atT; rfl; conv => whnf) | ((first | apply loadP_cells0 | apply loadP_cellsA | apply idxP_sl); (first | exact ceC | exact slC); (first | rfl | assumption); (try intro _ _ _); conv => whnf) | (apply loadP_cells; exact ceC; rfl; conv => whnf)))
  exact h1 _ (x - z + y.1, x - z + y.2) exT

theorem s121 {c : Cht} {cell tick : Nat} {dr : Int} {H : Heap} {R : Value → Heap → Prop} (hc : ChtAt H c) (ok : ChtOk c) (hcell : cell < c.nd) (ht : tick < c.nt) (hd : 1 ≤ dr ∧ dr ≤ 100)
    (h1 : ∀ H' a b, Ext H H' → R (.tuple ⟨[.bool a, .bool b, .int .i64 0]⟩) H') :
    ACall AP B (.fn 121) [.agg ⟨encC c⟩, .int .i64 dr, .int .i64 (cell : Int), .int .i64 (tick : Int)] H R := by
  (refine run_fn hB (a := a121) ap121 (by decide +kernel) rfl (by decide) ?_; conv => whnf)
  (repeat (first | (refine numP.mk ?_ ?_; exact fN; conv => whnf) | ((first | apply loadP_get | apply loadP_agg' | apply storeP_getR); exact atT; rfl; conv => whnf) | ((first | apply loadP_cells0 | apply loadP_cellsA | apply idxP_sl); (first | exact ceC | exact slC); (first | rfl | assumption); (try intro _ _ _); conv => whnf) | (apply loadP_cells; exact ceC; rfl; conv => whnf)))
  generalize hH : (((H.push _).push _).push _).push _ = H1
  have e1 : Ext H H1 := by rw [← hH]; exact exT
  have k2 : At H1 (H.size + 1) (.cells false 1 ([(cell : Int)].flatMap encI)) := by rw [← hH]; exact atT
  have k3 : At H1 (H.size + 2) (.cells false 1 ([(tick : Int)].flatMap encI)) := by rw [← hH]; exact atT
  have k4 : At H1 (H.size + 3) (.cells false 1 ([dr].flatMap encI)) := by rw [← hH]; exact atT
  refine callP_fn ?_
  refine s101 hB (hc.ext e1) ok (k2.slP fun _ _ => rfl) (k3.slP fun _ _ => rfl) (k4.slP fun _ _ => rfl) (by decide) (by decide) (by decide) (by simp; omega) (by simp; omega) (by simp; omega) fun H2 e2 => ?_
  have e12 := e1.trans e2
  (conv => whnf)
  (repeat (first | (refine numP.mk ?_ ?_; exact fN; conv => whnf) | ((first | apply loadP_get | apply loadP_agg' | apply storeP_getR); exact atT; rfl; conv => whnf) | ((first | apply loadP_cells0 | apply loadP_cellsA | apply idxP_sl); (first | exact ceC | exact slC); (first | rfl | assumption); (try intro _ _ _); conv => whnf) | (apply loadP_cells; exact ceC; rfl; conv => whnf)))
  (refine ifP_n (by decide) ?_; conv => whnf)
  (repeat (first | (refine numP.mk ?_ ?_; exact fN; conv => whnf) | ((first | apply loadP_get | apply loadP_agg' | apply storeP_getR); exact atT; rfl; conv => whnf) | ((first | apply loadP_cells0 | apply loadP_cellsA | apply idxP_sl); (first | exact ceC | exact slC); (first | rfl | assumption); (try intro _ _ _); conv => whnf) | (apply loadP_cells; exact ceC; rfl; conv => whnf)))
  refine callP_fn ?_
  refine s176 hB (hc.ext exT) ok hcell ht fun H3 x e3 => ?_
  have e3' : Ext H2 H3 := Ext.trans exT e3
  have e13 := e12.trans e3'
  (conv => whnf)
  (repeat (first | (refine numP.mk ?_ ?_; exact fN; conv => whnf) | ((first | apply loadP_get | apply loadP_agg' | apply storeP_getR); exact atT; rfl; conv => whnf) | ((first | apply loadP_cells0 | apply loadP_cellsA | apply idxP_sl); (first | exact ceC | exact slC); (first | rfl | assumption); (try intro _ _ _); conv => whnf) | (apply loadP_cells; exact ceC; rfl; conv => whnf)))
  refine ifP.mk (fun a1 => ?_) (fun a1 => ?_)
  · (conv => whnf)
    (repeat (first | (refine numP.mk ?_ ?_; exact fN; conv => whnf) | ((first | apply loadP_get | apply loadP_agg' | apply storeP_getR); exact atT; rfl; conv => whnf) | ((first | apply loadP_cells0 | apply loadP_cellsA | apply idxP_sl); (first | exact ceC | exact slC); (first | rfl | assumption); (try intro _ _ _); conv => whnf) | (apply loadP_cells; exact ceC; rfl; conv => whnf)))
    refine ifP.mk (fun a1 => ?_) (fun a1 => ?_)
    · (conv => whnf)
      exact h1 _ _ _ exT
    · (conv => whnf)
      exact h1 _ _ _ exT
  · (conv => whnf)
    (repeat (first | (refine numP.mk ?_ ?_; exact fN; conv => whnf) | ((first | apply loadP_get | apply loadP_agg' | apply storeP_getR); exact atT; rfl; conv => whnf) | ((first | apply loadP_cells0 | apply loadP_cellsA | apply idxP_sl); (first | exact ceC | exact slC); (first | rfl | assumption); (try intro _ _ _); conv => whnf) | (apply loadP_cells; exact ceC; rfl; conv => whnf)))
    refine ifP.mk (fun a1 => ?_) (fun a1 => ?_)
    · (conv => whnf)
      exact h1 _ _ _ exT
    · (conv => whnf)
      exact h1 _ _ _ exT

/-- The neighbour of a cell. -/
theorem s160 {c : Cht} {cell : Nat} {d : Int} {H : Heap} {R : Value → Heap → Prop} (ok : ChtOk c) (hW : At H 0 (.cells true 0 wyL)) (hcell : cell < c.nd) (hd : 0 ≤ d ∧ d ≤ 5)
    (h1 : ∀ H' (n : Int), Ext H H' → 0 ≤ n → n < c.nd → R (.tuple ⟨[.int .i64 n, .bool true]⟩) H') (h2 : ∀ H', Ext H H' → R (.tuple ⟨[.int .i64 0, .bool false]⟩) H') :
    ACall AP B (.fn 160) [.agg ⟨encC c⟩, .int .i64 (cell : Int), .int .i64 d] H R := by
  have hnd := ok.cells
  have hnd2 := ok.nd
  have hw := ok.wide
  have hh := ok.high
  have dv := divs (a := (cell : Int)) (b := c.wide) (by omega) hw.1
  (refine run_fn hB (a := a160) ap160 (by decide +kernel) rfl (by decide) ?_; conv => whnf)
  obtain ⟨ev, od, no, hw3, b1, b2, b3⟩ : ∃ ev od no : Int, (Nat.ble (0 + d.toNat * 3 + 3) wyL.length, (wyL.drop (0 + d.toNat * 3)).take 3) = (true, [.int .i64 ev, .int .i64 od, .int .i64 no]) ∧ (-1 ≤ ev ∧ ev ≤ 1) ∧ (-1 ≤ od ∧ od ≤ 1) ∧ (-1 ≤ no ∧ no ≤ 1) := by
    have hd' : d = 0 ∨ d = 1 ∨ d = 2 ∨ d = 3 ∨ d = 4 ∨ d = 5 := by omega
    rcases hd' with rfl | rfl | rfl | rfl | rfl | rfl <;> exact ⟨_, _, _, rfl, by omega, by omega, by omega⟩
  refine idxP_arr hd.1 (by omega) ?_
  (conv => whnf)
  refine loadP_agg' (ro := true) (e := 0) (C := wyL) (vs := [.int .i64 ev, .int .i64 od, .int .i64 no]) atT hw3 ?_
  (conv => whnf)
  (repeat (first | (refine numP.mk ?_ ?_; exact fN; conv => whnf) | ((first | apply loadP_get | apply loadP_agg' | apply storeP_getR); exact atT; rfl; conv => whnf) | ((first | apply loadP_cells0 | apply loadP_cellsA | apply idxP_sl); (first | exact ceC | exact slC); (first | rfl | assumption); (try intro _ _ _); conv => whnf) | (apply loadP_cells; exact ceC; rfl; conv => whnf)))
  refine divP.mk (by omega) (by unfold inI; omega) ?_
  (conv => whnf)
  (repeat (first | (refine numP.mk ?_ ?_; exact fN; conv => whnf) | ((first | apply loadP_get | apply loadP_agg' | apply storeP_getR); exact atT; rfl; conv => whnf) | ((first | apply loadP_cells0 | apply loadP_cellsA | apply idxP_sl); (first | exact ceC | exact slC); (first | rfl | assumption); (try intro _ _ _); conv => whnf) | (apply loadP_cells; exact ceC; rfl; conv => whnf)))
  refine ⟨keep_at (x := .cells false 0 (encC c)) atT atT, ?_⟩
  generalize hH : ((H.push _).push _).set _ _ = H1
  have e1 : Ext H H1 := by rw [← hH]; exact exT
  have k1 : At H1 H.size (.cells false 0 (encC c)) := by rw [← hH]; exact atT
  have k2 : At H1 (H.size + 1) (.cells false 0 [.int .i64 ev, .int .i64 od, .int .i64 no]) := by rw [← hH]; exact atT
  (conv => whnf)
  (repeat (first | (refine numP.mk ?_ ?_; exact fN; conv => whnf) | ((first | apply loadP_get | apply loadP_agg' | apply storeP_getR); exact atT; rfl; conv => whnf) | ((first | apply loadP_cells0 | apply loadP_cellsA | apply idxP_sl); (first | exact ceC | exact slC); (first | rfl | assumption); (try intro _ _ _); conv => whnf) | (apply loadP_cells; exact ceC; rfl; conv => whnf)))
  refine modP.mk (by omega) ?_
  (conv => whnf)
  refine ifP.mk (fun a1 => ?_) (fun a1 => ?_)
  · (conv => whnf)
    (repeat (first | (refine numP.mk ?_ ?_; exact fN; conv => whnf) | ((first | apply loadP_get | apply loadP_agg' | apply storeP_getR); exact atT; rfl; conv => whnf) | ((first | apply loadP_cells0 | apply loadP_cellsA | apply idxP_sl); (first | exact ceC | exact slC); (first | rfl | assumption); (try intro _ _ _); conv => whnf) | (apply loadP_cells; exact ceC; rfl; conv => whnf)))
    refine modP.mk (by omega) ?_
    (conv => whnf)
    (repeat (first | (refine numP.mk ?_ ?_; exact fN; conv => whnf) | ((first | apply loadP_get | apply loadP_agg' | apply storeP_getR); exact atT; rfl; conv => whnf) | ((first | apply loadP_cells0 | apply loadP_cellsA | apply idxP_sl); (first | exact ceC | exact slC); (first | rfl | assumption); (try intro _ _ _); conv => whnf) | (apply loadP_cells; exact ceC; rfl; conv => whnf)))
    refine callP_fn (s155 hB (fun c1 c2 => ?_) (fun c1 => ?_))
    rotate_left
    · (conv => whnf)
      exact h2 _ e1
    (conv => whnf)
    (repeat (first | (refine numP.mk ?_ ?_; exact fN; conv => whnf) | ((first | apply loadP_get | apply loadP_agg' | apply storeP_getR); exact atT; rfl; conv => whnf) | ((first | apply loadP_cells0 | apply loadP_cellsA | apply idxP_sl); (first | exact ceC | exact slC); (first | rfl | assumption); (try intro _ _ _); conv => whnf) | (apply loadP_cells; exact ceC; rfl; conv => whnf)))
    refine callP_fn (s155 hB (fun c3 c4 => ?_) (fun c3 => ?_))
    rotate_left
    · (conv => whnf)
      exact h2 _ e1
    have rb := row_bound ⟨c1, c2⟩ ⟨c3, c4⟩
    (conv => whnf)
    (repeat (first | (refine numP.mk ?_ ?_; exact fN; conv => whnf) | ((first | apply loadP_get | apply loadP_agg' | apply storeP_getR); exact atT; rfl; conv => whnf) | ((first | apply loadP_cells0 | apply loadP_cellsA | apply idxP_sl); (first | exact ceC | exact slC); (first | rfl | assumption); (try intro _ _ _); conv => whnf) | (apply loadP_cells; exact ceC; rfl; conv => whnf)))
    exact h1 _ _ e1 (by omega) (by omega)
  · (conv => whnf)
    (repeat (first | (refine numP.mk ?_ ?_; exact fN; conv => whnf) | ((first | apply loadP_get | apply loadP_agg' | apply storeP_getR); exact atT; rfl; conv => whnf) | ((first | apply loadP_cells0 | apply loadP_cellsA | apply idxP_sl); (first | exact ceC | exact slC); (first | rfl | assumption); (try intro _ _ _); conv => whnf) | (apply loadP_cells; exact ceC; rfl; conv => whnf)))
    refine modP.mk (by omega) ?_
    (conv => whnf)
    (repeat (first | (refine numP.mk ?_ ?_; exact fN; conv => whnf) | ((first | apply loadP_get | apply loadP_agg' | apply storeP_getR); exact atT; rfl; conv => whnf) | ((first | apply loadP_cells0 | apply loadP_cellsA | apply idxP_sl); (first | exact ceC | exact slC); (first | rfl | assumption); (try intro _ _ _); conv => whnf) | (apply loadP_cells; exact ceC; rfl; conv => whnf)))
    refine callP_fn (s155 hB (fun c1 c2 => ?_) (fun c1 => ?_))
    rotate_left
    · (conv => whnf)
      exact h2 _ e1
    (conv => whnf)
    (repeat (first | (refine numP.mk ?_ ?_; exact fN; conv => whnf) | ((first | apply loadP_get | apply loadP_agg' | apply storeP_getR); exact atT; rfl; conv => whnf) | ((first | apply loadP_cells0 | apply loadP_cellsA | apply idxP_sl); (first | exact ceC | exact slC); (first | rfl | assumption); (try intro _ _ _); conv => whnf) | (apply loadP_cells; exact ceC; rfl; conv => whnf)))
    refine callP_fn (s155 hB (fun c3 c4 => ?_) (fun c3 => ?_))
    rotate_left
    · (conv => whnf)
      exact h2 _ e1
    have rb := row_bound ⟨c1, c2⟩ ⟨c3, c4⟩
    (conv => whnf)
    (repeat (first | (refine numP.mk ?_ ?_; exact fN; conv => whnf) | ((first | apply loadP_get | apply loadP_agg' | apply storeP_getR); exact atT; rfl; conv => whnf) | ((first | apply loadP_cells0 | apply loadP_cellsA | apply idxP_sl); (first | exact ceC | exact slC); (first | rfl | assumption); (try intro _ _ _); conv => whnf) | (apply loadP_cells; exact ceC; rfl; conv => whnf)))
    exact h1 _ _ e1 (by omega) (by omega)
end LV
