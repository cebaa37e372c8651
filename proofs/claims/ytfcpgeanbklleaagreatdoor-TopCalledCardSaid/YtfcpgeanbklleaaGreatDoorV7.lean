/- Part of the proof of this claim: text V7. -/
import Derived.Test.YtfcpgeanbklleaaGreatDoorV6
set_option linter.unusedSectionVars false
set_option linter.unusedSimpArgs false
set_option linter.unusedVariables false
namespace LV
open Go Ab
set_option maxRecDepth 100000

/-- A row of a table: a slice, and what it holds. -/
structure RowC (α : Type) where
  p : Option Addr
  n : Nat
  c : Nat
  l : List α

def encRow {α : Type} (x : RowC α) : List Value := [.slice x.p x.n x.c]

/-- A station of the launches, in cells. -/
def encSta (c : Cht) (b : Cls) (ramp : Int) (br : Nat) (pc : Option Addr) (nc cc : Nat) (pn : Option Addr) (nn cn : Nat) : List Value :=
  encC c ++ (encK b ++ [.int .i64 ramp, .slice (some ⟨br, 0, none⟩) c.nt c.nt, .slice pc nc cc, .slice pn nn cn])

def withDr (r : Rmp) (d : Int) : Rmp := { r with draught := d }

/-- A boat of a class can be launched from a ramp in a tick. -/
def Rd (c : Cht) (b : Cls) (r : Rmp) (t : Nat) : Prop := (∃ s ∈ winL c (withDr r b.draught) c.nt, s.1 ≤ (t : Int) ∧ (t : Int) ≤ s.2) ∧ c.swell.getD t 0 ≤ b.seas

/-- A station of the launches in memory. -/
structure StaAt (H : Heap) (bs br : Nat) (c : Cht) (b : Cls) (ramp : Int) (rd : List Bool) (pc : Option Addr) (nc cc : Nat) (can : List (RowC Bool)) (pn : Option Addr) (nn cn : Nat) (near : List (RowC Int)) : Prop where
  box : At H bs (.cells false 0 (encSta c b ramp br pc nc cc pn nn cn))
  ready : At H br (.cells false 1 (rd.flatMap encBo))
  canTop : SlP H 1 encRow pc nc can
  canLen : nc = c.nt
  cans : ∀ x ∈ can, SlP H 1 encBo x.p x.n x.l ∧ x.n = c.nd
  nearTop : SlP H 1 encRow pn nn near
  nearLen : nn = c.nd
  nears : ∀ x ∈ near, SlP H 1 encI x.p x.n x.l ∧ (∀ v ∈ x.l, 0 ≤ v ∧ v < c.nd) ∧ x.n ≤ 7

theorem StaAt.ext {H H' : Heap} {bs br : Nat} {c : Cht} {b : Cls} {ramp : Int} {rd : List Bool} {pc : Option Addr} {nc cc : Nat} {can : List (RowC Bool)} {pn : Option Addr} {nn cn : Nat} {near : List (RowC Int)} (h : StaAt H bs br c b ramp rd pc nc cc can pn nn cn near) (e : Ext H H') : StaAt H' bs br c b ramp rd pc nc cc can pn nn cn near :=
  ⟨e.at' _ _ h.box, e.at' _ _ h.ready, h.canTop.ext e, h.canLen, fun x hx => ⟨(h.cans x hx).1.ext e, (h.cans x hx).2⟩, h.nearTop.ext e, h.nearLen, fun x hx => ⟨(h.nears x hx).1.ext e, (h.nears x hx).2⟩⟩

structure RdOk (c : Cht) (b : Cls) (rd : List Bool) (P : Nat → Prop) : Prop where
  len : rd.length = c.nt
  iff : ∀ t, t < c.nt → (rd[t]? = some true ↔ P t ∧ c.swell.getD t 0 ≤ b.seas)

theorem RdOk.set {c : Cht} {b : Cls} {rd : List Bool} {P Q : Nat → Prop} (h : RdOk c b rd P) {u : Nat} (hu : u < c.nt) {v : Bool} (hv : v = true ↔ c.swell.getD u 0 ≤ b.seas) (hQ : ∀ t, Q t ↔ P t ∨ t = u) : RdOk c b (rd.set u v) Q := by
  refine ⟨by rw [List.length_set, h.len], fun t ht => ?_⟩
  rw [List.getElem?_set]
  have hl := h.len
  by_cases hut : u = t
  · subst hut
    rw [if_pos rfl, if_pos (by omega), hQ]
    constructor
    · intro e
      exact ⟨.inr rfl, hv.1 (by simpa using e)⟩
    · intro e
      rw [hv.2 e.2]
  · rw [if_neg hut, h.iff t ht, hQ]
    constructor
    · exact fun e => ⟨.inl e.1, e.2⟩
    · exact fun e => ⟨e.1.resolve_right fun x => hut x.symm, e.2⟩

theorem RdOk.congr {c : Cht} {b : Cls} {rd : List Bool} {P Q : Nat → Prop} (h : RdOk c b rd P) (hQ : ∀ t, P t ↔ Q t) : RdOk c b rd Q := ⟨h.len, fun t ht => by rw [h.iff t ht, hQ]⟩

theorem Ext.setNone {H H1 : Heap} {b : Nat} {x : Blk} (h : Ext H H1) (hb : H.get b = none) : Ext H (H1.set b x) :=
  ⟨fun c y e => (h.at' c y e).setNe (by rintro rfl; rw [e.get] at hb; cases hb), h.size⟩

/-- Rows of a table, each in a block of its own, that is older than the table's. -/
def RowsB {α : Type} (HB H : Heap) (enc : α → List Value) (pc : Option Addr) (rows : List (RowC α)) : Prop :=
  ∀ x ∈ rows, ∃ bx, x.p = some ⟨bx, 0, none⟩ ∧ HB.size ≤ bx ∧ (∀ a, pc = some a → bx < a.block) ∧ x.n = x.l.length ∧ At H bx (.cells false 1 (x.l.flatMap enc))

theorem RowsB.ext {α : Type} {HB H H' : Heap} {enc : α → List Value} {pc : Option Addr} {rows : List (RowC α)} (h : RowsB HB H enc pc rows) (e : Ext H H') : RowsB HB H' enc pc rows := fun x hx =>
  let ⟨bx, h1, h2, h3, h4, h5⟩ := h x hx
  ⟨bx, h1, h2, h3, h4, e.at' _ _ h5⟩

theorem RowsB.step {α : Type} {HB H2 H4 H5 : Heap} {enc : α → List Value} {pc : Option Addr} {rows : List (RowC α)} {bs bk top cx : Nat} {l : List α} {y : Blk} (h : RowsB HB H2 enc pc rows) (e : Ext H2 H4) (hb : bs < HB.size) (hs : HB.size ≤ H2.size) (hbk : H2.size ≤ bk)
    (hk : At H4 bk (.cells false 1 (l.flatMap enc))) (keep : ∀ d z, At H4 d z → (∀ a, pc = some a → a.block ≠ d) → At H5 d z) (hpc : ∀ a, pc = some a → a.block < H2.size) (htop : H4.size ≤ top) :
    RowsB HB (H5.set bs y) enc (some ⟨top, 0, none⟩) (rows ++ [⟨some ⟨bk, 0, none⟩, l.length, cx, l⟩]) := by
  intro x hx
  rcases List.mem_append.1 hx with hx | hx
  · obtain ⟨bx, h1, h2, h3, h4, h5⟩ := h x hx
    refine ⟨bx, h1, h2, fun a ha => by cases ha; have := h5.lt; have := e.size; simp only; omega, h4, (keep _ _ (e.at' _ _ h5) fun a ha => by have := h3 a ha; omega).setNe (by omega)⟩
  · simp at hx
    subst hx
    refine ⟨bk, rfl, by omega, fun a ha => by cases ha; have := hk.lt; simp only; omega, rfl, (keep _ _ hk fun a ha => by have := hpc a ha; omega).setNe (by omega)⟩

variable {B : CallPred} (hB : BaseMono B)
include hB

theorem s70 {c : Cht} {b : Cls} {r : Rmp} {tick fuel : Int} {H : Heap} {R : Value → Heap → Prop} (hc : ChtAt H c) (hW : At H 0 (.cells true 0 wyL)) (ok : ChtOk c) (okb : ClsOk b) (okr : RmpOk c r) (ht : 0 ≤ tick ∧ tick < c.nt) (hf : 0 ≤ fuel ∧ fuel ≤ 5000)
    (h1 : ∀ H' bs br rd pc nc cc can pn nn cn near, Ext H H' → RdOk c b rd (fun t => ∃ x ∈ winL c (withDr r b.draught) c.nt, x.1 ≤ (t : Int) ∧ (t : Int) ≤ x.2) → StaAt H' bs br c b r.cell rd pc nc cc can pn nn cn near → R (.tuple ⟨[.pointer (some ⟨bs, 0, none⟩), .int .i64 0]⟩) H') :
    ACall AP B (.fn 70) [.agg ⟨encC c⟩, .agg ⟨encK b⟩, .agg ⟨encR r⟩, .int .i64 tick, .int .i64 fuel] H R := by
  have ld := hc.depth.len
  have lt := hc.tide.len
  have lw := hc.swell.len
  have okn := ok.cells
  have okt := ok.nt
  have okw := ok.nw
  have rc := okr.cell
  (refine run_fn hB (a := a70) ap70 (by decide +kernel) rfl (by decide) ?_; conv => whnf)
  (repeat (first | (refine numP.mk ?_ ?_; exact fN; conv => whnf) | ((first | apply loadP_get | apply loadP_agg' | apply storeP_getR); exact atT; rfl; conv => whnf) | ((first | apply loadP_cells0 | apply loadP_cellsA | apply idxP_sl); (first | exact ceC | exact slC); (first | rfl | assumption); (try intro _ _ _); conv => whnf) | (apply loadP_cells; exact ceC; rfl; conv => whnf)))
  generalize hH : ((H.push _).push _).push _ = H1
  have e1 : Ext H H1 := by rw [← hH]; exact exT
  have k1 : At H1 H.size (.cells false 0 (encC c)) := by rw [← hH]; exact atT
  have k2 : At H1 (H.size + 1) (.cells false 0 (encK b)) := by rw [← hH]; exact atT
  have k3 : At H1 (H.size + 2) (.cells false 0 (encR r)) := by rw [← hH]; exact atT
  clear hH
  refine callP_fn (s118 hB (hc.ext e1) ok fun H2 e2 => ?_)
  have k1 := e2.at' _ _ k1
  have k2 := e2.at' _ _ k2
  have k3 := e2.at' _ _ k3
  have e1 := e1.trans e2
  (conv => whnf)
  (refine ifP_n (by decide) ?_; conv => whnf)
  (repeat (first | (refine numP.mk ?_ ?_; exact fN; conv => whnf) | ((first | apply loadP_get | apply loadP_agg' | apply storeP_getR); exact atT; rfl; conv => whnf) | ((first | apply loadP_cells0 | apply loadP_cellsA | apply idxP_sl); (first | exact ceC | exact slC); (first | rfl | assumption); (try intro _ _ _); conv => whnf) | (apply loadP_cells; exact ceC; rfl; conv => whnf)))
  refine callP_fn (s119 hB okb fun H3 e3 => ?_)
  have k1 := e3.at' _ _ k1
  have k2 := e3.at' _ _ k2
  have k3 := e3.at' _ _ k3
  have e1 := e1.trans e3
  (conv => whnf)
  (refine ifP_n (by decide) ?_; conv => whnf)
  (repeat (first | (refine numP.mk ?_ ?_; exact fN; conv => whnf) | ((first | apply loadP_get | apply loadP_agg' | apply storeP_getR); exact atT; rfl; conv => whnf) | ((first | apply loadP_cells0 | apply loadP_cellsA | apply idxP_sl); (first | exact ceC | exact slC); (first | rfl | assumption); (try intro _ _ _); conv => whnf) | (apply loadP_cells; exact ceC; rfl; conv => whnf)))
  refine callP_fn (s120 hB (hc.ext e1) ok okr fun H4 p4 c4 q4 m4 d4 e4 _ => ?_)
  have k1 := e4.at' _ _ k1
  have k2 := e4.at' _ _ k2
  have k3 := e4.at' _ _ k3
  have e1 := e1.trans e4
  clear e2 e3 e4
  (conv => whnf)
  (refine ifP_n (by decide) ?_; conv => whnf)
  (repeat (first | (refine numP.mk ?_ ?_; exact fN; conv => whnf) | ((first | apply loadP_get | apply loadP_agg' | apply storeP_getR); exact atT; rfl; conv => whnf) | ((first | apply loadP_cells0 | apply loadP_cellsA | apply idxP_sl); (first | exact ceC | exact slC); (first | rfl | assumption); (try intro _ _ _); conv => whnf) | (apply loadP_cells; exact ceC; rfl; conv => whnf)))
  refine callP_fn (s71 hB (fun _ _ => ?_) (fun a1 => absurd (by omega) a1))
  (conv => whnf)
  (repeat (first | (refine numP.mk ?_ ?_; exact fN; conv => whnf) | ((first | apply loadP_get | apply loadP_agg' | apply storeP_getR); exact atT; rfl; conv => whnf) | ((first | apply loadP_cells0 | apply loadP_cellsA | apply idxP_sl); (first | exact ceC | exact slC); (first | rfl | assumption); (try intro _ _ _); conv => whnf) | (apply loadP_cells; exact ceC; rfl; conv => whnf)))
  refine callP_fn (s71 hB (fun _ _ => ?_) (fun a1 => absurd hf a1))
  (conv => whnf)
  (repeat (first | (refine numP.mk ?_ ?_; exact fN; conv => whnf) | ((first | apply loadP_get | apply loadP_agg' | apply storeP_getR); exact atT; rfl; conv => whnf) | ((first | apply loadP_cells0 | apply loadP_cellsA | apply idxP_sl); (first | exact ceC | exact slC); (first | rfl | assumption); (try intro _ _ _); conv => whnf) | (apply loadP_cells; exact ceC; rfl; conv => whnf)))
  refine makeP_ok (by omega) (by omega) (by omega) ?_
  (conv => whnf)
  (repeat (first | (refine numP.mk ?_ ?_; exact fN; conv => whnf) | ((first | apply loadP_get | apply loadP_agg' | apply storeP_getR); exact atT; rfl; conv => whnf) | ((first | apply loadP_cells0 | apply loadP_cellsA | apply idxP_sl); (first | exact ceC | exact slC); (first | rfl | assumption); (try intro _ _ _); conv => whnf) | (apply loadP_cells; exact ceC; rfl; conv => whnf)))
  have s4 := k3.lt
  generalize hH : ((H4.push _).push _).set _ _ = H5
  have e5 : Ext (dropB (H.size + 2) H4) H5 := by
    rw [← hH]
    exact (Mod.trans (Mod.ofExt exT) Mod.set).toDrop
  have kb : At H5 (H4.size + 1) (.cells false 0 (encSta c b r.cell H4.size none 0 0 none 0 0)) := by rw [← hH]; exact At.setNe At.self (by show H4.size + 1 ≠ H.size + 2; omega)
  have kr : At H5 H4.size (.cells false 1 ((List.replicate c.nt false).flatMap encBo)) := by
    have hrep : repl c.nt [.bool false] = (List.replicate c.nt false).flatMap encBo := repl_flat (enc := encBo) (x := false) rfl c.nt
    rw [← hH, ← hrep]
    exact At.setNe (At.push At.self) (by show H4.size ≠ H.size + 2; omega)
  have k7 : At H5 (H.size + 2) (.cells false 0 (encR (withDr r b.draught))) := by rw [← hH]; exact At.setSelf (by show H.size + 2 < H4.size + 1 + 1; omega)
  have s5 : H5.size = H4.size + 2 := by rw [← hH]; rfl
  clear hH
  have f1 : At (dropB (H.size + 2) H4) H.size (.cells false 0 (encC c)) := ⟨by show (if H.size = H.size + 2 then none else H4.get H.size) = _; rw [if_neg (by omega)]; exact k1.get, k1.lt⟩
  have f2 : At (dropB (H.size + 2) H4) (H.size + 1) (.cells false 0 (encK b)) := ⟨by show (if H.size + 1 = H.size + 2 then none else H4.get (H.size + 1)) = _; rw [if_neg (by omega)]; exact k2.get, k2.lt⟩
  have e0 : Ext H (dropB (H.size + 2) H4) := ⟨fun d x hd => ⟨by show (if d = H.size + 2 then none else H4.get d) = _; rw [if_neg (by have := hd.lt; omega)]; exact (e1.at' _ _ hd).get, (e1.at' _ _ hd).lt⟩, e1.size⟩
  generalize hD : dropB (H.size + 2) H4 = Hd at e5 f1 f2 e0
  have sd : Hd.size = H4.size := by rw [← hD]; rfl
  clear hD
  have g1 := e5.at' _ _ f1
  (conv => whnf)
  (repeat (first | (refine numP.mk ?_ ?_; exact fN; conv => whnf) | ((first | apply loadP_get | apply loadP_agg' | apply storeP_getR); exact atT; rfl; conv => whnf) | ((first | apply loadP_cells0 | apply loadP_cellsA | apply idxP_sl); (first | exact ceC | exact slC); (first | rfl | assumption); (try intro _ _ _); conv => whnf) | (apply loadP_cells; exact ceC; rfl; conv => whnf)))
  refine callP_fn (s120 hB (hc.ext (e0.trans e5)) ok (r := withDr r b.draught) ⟨okr.cell, okb.draught, okr.least, okr.most, okr.surf⟩ fun H6 p6 c6 q6 m6 d6 e6 mn => ?_)
  (conv => whnf)
  (repeat (first | (refine numP.mk ?_ ?_; exact fN; conv => whnf) | ((first | apply loadP_get | apply loadP_agg' | apply storeP_getR); exact atT; rfl; conv => whnf) | ((first | apply loadP_cells0 | apply loadP_cellsA | apply idxP_sl); (first | exact ceC | exact slC); (first | rfl | assumption); (try intro _ _ _); conv => whnf) | (apply loadP_cells; exact ceC; rfl; conv => whnf)))
  have kb := e6.at' _ _ kb
  have kr := e6.at' _ _ kr
  have e6 := e5.trans e6
  refine loop_pins (CallMono.acall hB) (σ := Nat × List Bool)
    (fun s => [(5, .pointer (some ⟨H.size, 0, none⟩)), (6, .pointer (some ⟨H.size + 1, 0, none⟩)), (17, .pointer (some ⟨H4.size + 1, 0, none⟩)), (87, .slice p6 (winL c (withDr r b.draught) c.nt).length c6), (88, .int .i64 ((winL c (withDr r b.draught) c.nt).length : Int)), (89, .int .i64 (s.1 : Int))])
    (fun s H' => Ext Hd H' ∧ Mine H5 H' 2 p6 (winL c (withDr r b.draught) c.nt).length c6 ((winL c (withDr r b.draught) c.nt).flatMap encS) ∧ At H' (H4.size + 1) (.cells false 0 (encSta c b r.cell H4.size none 0 0 none 0 0)) ∧ At H' H4.size (.cells false 1 (s.2.flatMap encBo)) ∧
      RdOk c b s.2 (fun t => ∃ j x, j < s.1 ∧ (winL c (withDr r b.draught) c.nt)[j]? = some x ∧ x.1 ≤ (t : Int) ∧ (t : Int) ≤ x.2) ∧ s.1 ≤ (winL c (withDr r b.draught) c.nt).length) (fun s => (winL c (withDr r b.draught) c.nt).length - s.1) (0, List.replicate c.nt false) ?_ ?_ ?_
  · exact ⟨rfl, rfl, rfl, rfl, rfl, rfl, trivial⟩
  · refine ⟨e6, mn, kb, kr, ⟨by simp, fun t ht => ?_⟩, Nat.zero_le _⟩
    rw [List.getElem?_replicate, if_pos ht]
    constructor
    · intro h; simp at h
    · rintro ⟨⟨j, x, hj, _⟩, _⟩; simp at hj
  rintro ⟨k, rd⟩ E H' ⟨e', mn', kb', kr', rok, hk⟩
  simp only at e' mn' kb' kr' rok hk
  have hwl := winL_mem c (withDr r b.draught) c.nt
  have hLl := winL_len c (withDr r b.draught) c.nt
  generalize winL c (withDr r b.draught) c.nt = L at *
  have g1 := e'.at' _ _ f1
  have g2 := e'.at' _ _ f2
  (conv => whnf)
  refine ifP.mk (fun hlt => ?_) (fun hge => ?_)
  · have hlt' : k < L.length := by have h0 : (k : Int) < (L.length : Int) := hlt; omega
    obtain ⟨s, hs⟩ : ∃ s, L[k]? = some s := ⟨L[k], by simp⟩
    have bs := hwl s (List.mem_of_getElem? hs)
    have sl : SlP H' 2 encS p6 L.length L := mn'.own.srcOf.slP rfl fun _ _ => rfl
    (conv => whnf)
    (repeat (first | (refine numP.mk ?_ ?_; exact fN; conv => whnf) | ((first | apply loadP_get | apply loadP_agg' | apply storeP_getR); exact atT; rfl; conv => whnf) | ((first | apply loadP_cells0 | apply loadP_cellsA | apply idxP_sl); (first | exact ceC | exact slC); (first | rfl | assumption); (try intro _ _ _); conv => whnf) | (apply loadP_cells; exact ceC; rfl; conv => whnf)))
    generalize hH : (H'.push _).set _ _ = H7
    have e7 : Ext H' H7 := by rw [← hH]; exact exT
    have kx : At H7 H'.size (.cells false 0 (encS s)) := by rw [← hH]; exact atT
    have s7 : H7.size = H'.size + 1 := by rw [← hH]; rfl
    clear hH
    have lbr := kr'.lt
    have lbs := kb'.lt
    (repeat (first | (refine numP.mk ?_ ?_; exact fN; conv => whnf) | ((first | apply loadP_get | apply loadP_agg' | apply storeP_getR); exact atT; rfl; conv => whnf) | ((first | apply loadP_cells0 | apply loadP_cellsA | apply idxP_sl); (first | exact ceC | exact slC); (first | rfl | assumption); (try intro _ _ _); conv => whnf) | (apply loadP_cells; exact ceC; rfl; conv => whnf)))
    refine loop_pins (CallMono.acall hB) (σ := Nat × List Bool)
      (fun z => [(5, .pointer (some ⟨H.size, 0, none⟩)), (6, .pointer (some ⟨H.size + 1, 0, none⟩)), (17, .pointer (some ⟨H4.size + 1, 0, none⟩)), (22, .pointer (some ⟨H'.size, 0, none⟩)), (23, .int .i64 (s.1 + z.1)), (87, .slice p6 L.length c6), (88, .int .i64 (L.length : Int)), (89, .int .i64 (k : Int))])
      (fun z H2 => Ext Hd H2 ∧ Mine H5 H2 2 p6 L.length c6 (L.flatMap encS) ∧ At H2 (H4.size + 1) (.cells false 0 (encSta c b r.cell H4.size none 0 0 none 0 0)) ∧ At H2 H4.size (.cells false 1 (z.2.flatMap encBo)) ∧ At H2 H'.size (.cells false 0 (encS s)) ∧
        RdOk c b z.2 (fun t => (∃ j x, j < k ∧ L[j]? = some x ∧ x.1 ≤ (t : Int) ∧ (t : Int) ≤ x.2) ∨ (s.1 ≤ (t : Int) ∧ (t : Int) < s.1 + z.1)) ∧ s.1 + z.1 ≤ s.2 + 1) (fun z => (s.2 + 1 - s.1 - z.1).toNat) (0, rd) ?_ ?_ ?_
    · exact ⟨rfl, rfl, rfl, rfl, by simp [upd], rfl, rfl, rfl, trivial⟩
    · refine ⟨e'.trans e7, mn'.ext e7, e7.at' _ _ kb', e7.at' _ _ kr', kx, rok.congr fun t => ?_, by simp only; omega⟩
      constructor
      · exact fun h => .inl h
      · rintro (h | h)
        · exact h
        · simp only at h; omega
    rintro ⟨u, rd2⟩ E H8 ⟨e8, mn8, kb8, kr8, kx8, rok8, hu⟩
    simp only at e8 mn8 kb8 kr8 kx8 rok8 hu
    have g1 := e8.at' _ _ f1
    have g2 := e8.at' _ _ f2
    (conv => whnf)
    (repeat (first | (refine numP.mk ?_ ?_; exact fN; conv => whnf) | ((first | apply loadP_get | apply loadP_agg' | apply storeP_getR); exact atT; rfl; conv => whnf) | ((first | apply loadP_cells0 | apply loadP_cellsA | apply idxP_sl); (first | exact ceC | exact slC); (first | rfl | assumption); (try intro _ _ _); conv => whnf) | (apply loadP_cells; exact ceC; rfl; conv => whnf)))
    refine ifP.mk (fun (a1 : s.1 + u ≤ s.2) => ?_) (fun (a1 : ¬ s.1 + u ≤ s.2) => ?_)
    · obtain ⟨v, hv⟩ : ∃ v : Nat, s.1 + u = (v : Int) := ⟨(s.1 + u).toNat, by omega⟩
      obtain ⟨z, hz⟩ : ∃ z, c.swell[v]? = some z := ⟨c.swell[v]'(by omega), by simp⟩
      have gz : c.swell.getD v 0 = z := by simp [List.getD, hz]
      have cw := (hc.ext (e0.trans e8)).swell
      have lrd := rok8.len
      obtain ⟨w0, hw0⟩ : ∃ w0, rd2[v]? = some w0 := ⟨rd2[v]'(by omega), by simp⟩
      have inv : ∀ val : Bool, (val = true ↔ z ≤ b.seas) → Ext Hd (H8.set H4.size (.cells false 1 ((rd2.set v val).flatMap encBo))) ∧ Mine H5 (H8.set H4.size (.cells false 1 ((rd2.set v val).flatMap encBo))) 2 p6 L.length c6 (L.flatMap encS) ∧
          At (H8.set H4.size (.cells false 1 ((rd2.set v val).flatMap encBo))) (H4.size + 1) (.cells false 0 (encSta c b r.cell H4.size none 0 0 none 0 0)) ∧ At (H8.set H4.size (.cells false 1 ((rd2.set v val).flatMap encBo))) H4.size (.cells false 1 ((rd2.set v val).flatMap encBo)) ∧
          At (H8.set H4.size (.cells false 1 ((rd2.set v val).flatMap encBo))) H'.size (.cells false 0 (encS s)) ∧
          RdOk c b (rd2.set v val) (fun t => (∃ j x, j < k ∧ L[j]? = some x ∧ x.1 ≤ (t : Int) ∧ (t : Int) ≤ x.2) ∨ (s.1 ≤ (t : Int) ∧ (t : Int) < s.1 + ((u + 1 : Nat) : Int))) ∧ s.1 + ((u + 1 : Nat) : Int) ≤ s.2 + 1 := by
        intro val hval
        have lr8 := kr8.lt
        refine ⟨e8.set (by omega), mn8.keep (q := some ⟨H4.size, 0, none⟩) (fun d x hd hne => hd.setNe fun e => hne _ rfl e.symm) (fun a b' ha hb he => by cases ha; have := mn8.ge b' hb; simp only at he; omega), kb8.setNe (by omega), .setSelf lr8, kx8.setNe (by omega),
          rok8.set (by omega) (by rw [gz]; exact hval) fun t => ?_, by omega⟩
        constructor
        · rintro (h | h)
          · exact .inl (.inl h)
          · by_cases htv : t = v
            · exact .inr htv
            · exact .inl (.inr ⟨h.1, by omega⟩)
        · rintro ((h | h) | h)
          · exact .inl h
          · exact .inr ⟨h.1, by omega⟩
          · exact .inr (by omega)
      (conv => whnf)
      (repeat (first | (refine numP.mk ?_ ?_; exact fN; conv => whnf) | ((first | apply loadP_get | apply loadP_agg' | apply storeP_getR); exact atT; rfl; conv => whnf) | ((first | apply loadP_cells0 | apply loadP_cellsA | apply idxP_sl); (first | exact ceC | exact slC); (first | rfl | assumption); (try intro _ _ _); conv => whnf) | (apply loadP_cells; exact ceC; rfl; conv => whnf)))
      refine idxP_slj (i := v) hv cw hz fun b' o' hcc => ?_
      (conv => whnf)
      (repeat (first | (refine numP.mk ?_ ?_; exact fN; conv => whnf) | ((first | apply loadP_get | apply loadP_agg' | apply storeP_getR); exact atT; rfl; conv => whnf) | ((first | apply loadP_cells0 | apply loadP_cellsA | apply idxP_sl); (first | exact ceC | exact slC); (first | rfl | assumption); (try intro _ _ _); conv => whnf) | (apply loadP_cells; exact ceC; rfl; conv => whnf)))
      refine ifP.mk (fun (a2 : z ≤ b.seas) => ?_) (fun (a2 : ¬ z ≤ b.seas) => ?_)
      · skip
        (conv => whnf)
        (repeat (first | (refine numP.mk ?_ ?_; exact fN; conv => whnf) | ((first | apply loadP_get | apply loadP_agg' | apply storeP_getR); exact atT; rfl; conv => whnf) | ((first | apply loadP_cells0 | apply loadP_cellsA | apply idxP_sl); (first | exact ceC | exact slC); (first | rfl | assumption); (try intro _ _ _); conv => whnf) | (apply loadP_cells; exact ceC; rfl; conv => whnf)))
        refine idxP_slice (by omega) (by omega) ?_
        (conv => whnf)
        refine storeP_elem (enc := encBo) (l := rd2) (k := v) (f := 0) (x := w0) (y := true) kr8 (fun _ _ => rfl) hw0 (by omega) rfl (by decide) rfl rfl ?_
        (conv => whnf)
        (repeat (first | (refine numP.mk ?_ ?_; exact fN; conv => whnf) | ((first | apply loadP_get | apply loadP_agg' | apply storeP_getR); exact atT; rfl; conv => whnf) | ((first | apply loadP_cells0 | apply loadP_cellsA | apply idxP_sl); (first | exact ceC | exact slC); (first | rfl | assumption); (try intro _ _ _); conv => whnf) | (apply loadP_cells; exact ceC; rfl; conv => whnf)))
        refine ⟨(u + 1, rd2.set v true), ⟨rfl, rfl, rfl, rfl, ?_, rfl, rfl, rfl, trivial⟩, inv true (by simpa using a2), by simp only; omega⟩
        show Value.int .i64 (s.1 + u + 1) = .int .i64 (s.1 + ((u + 1 : Nat) : Int))
        congr 1; omega
      · skip
        (conv => whnf)
        (repeat (first | (refine numP.mk ?_ ?_; exact fN; conv => whnf) | ((first | apply loadP_get | apply loadP_agg' | apply storeP_getR); exact atT; rfl; conv => whnf) | ((first | apply loadP_cells0 | apply loadP_cellsA | apply idxP_sl); (first | exact ceC | exact slC); (first | rfl | assumption); (try intro _ _ _); conv => whnf) | (apply loadP_cells; exact ceC; rfl; conv => whnf)))
        refine idxP_slice (by omega) (by omega) ?_
        (conv => whnf)
        refine storeP_elem (enc := encBo) (l := rd2) (k := v) (f := 0) (x := w0) (y := false) kr8 (fun _ _ => rfl) hw0 (by omega) rfl (by decide) rfl rfl ?_
        (conv => whnf)
        (repeat (first | (refine numP.mk ?_ ?_; exact fN; conv => whnf) | ((first | apply loadP_get | apply loadP_agg' | apply storeP_getR); exact atT; rfl; conv => whnf) | ((first | apply loadP_cells0 | apply loadP_cellsA | apply idxP_sl); (first | exact ceC | exact slC); (first | rfl | assumption); (try intro _ _ _); conv => whnf) | (apply loadP_cells; exact ceC; rfl; conv => whnf)))
        refine ⟨(u + 1, rd2.set v false), ⟨rfl, rfl, rfl, rfl, ?_, rfl, rfl, rfl, trivial⟩, inv false (by simpa using a2), by simp only; omega⟩
        show Value.int .i64 (s.1 + u + 1) = .int .i64 (s.1 + ((u + 1 : Nat) : Int))
        congr 1; omega
    · (conv => whnf)
      (repeat (first | (refine numP.mk ?_ ?_; exact fN; conv => whnf) | ((first | apply loadP_get | apply loadP_agg' | apply storeP_getR); exact atT; rfl; conv => whnf) | ((first | apply loadP_cells0 | apply loadP_cellsA | apply idxP_sl); (first | exact ceC | exact slC); (first | rfl | assumption); (try intro _ _ _); conv => whnf) | (apply loadP_cells; exact ceC; rfl; conv => whnf)))
      refine ⟨(k + 1, rd2), ⟨rfl, rfl, rfl, rfl, rfl, rfl, trivial⟩, ⟨e8, mn8, kb8, kr8, rok8.congr fun t => ?_, by simp only; omega⟩, by simp only; omega⟩
      constructor
      · rintro (⟨j, x, hj, h⟩ | h)
        · exact ⟨j, x, by simp only; omega, h⟩
        · exact ⟨k, s, by simp only; omega, hs, h.1, by omega⟩
      · rintro ⟨j, x, hj, hx, h⟩
        by_cases hjk : j = k
        · subst hjk; rw [hs] at hx; cases hx; exact .inr (by omega)
        · exact .inl ⟨j, x, by simp only at hj; omega, hx, h⟩
  have hkL : k = L.length := by have h0 : ¬ (k : Int) < (L.length : Int) := hge; omega
  subst hkL
  have rok : RdOk c b rd (fun t => ∃ x ∈ L, x.1 ≤ (t : Int) ∧ (t : Int) ≤ x.2) := rok.congr fun t => by
    constructor
    · rintro ⟨j, x, _, hx, h⟩
      exact ⟨x, List.mem_of_getElem? hx, h⟩
    · rintro ⟨x, hx, h⟩
      obtain ⟨j, hj1, hj2⟩ := List.getElem_of_mem hx
      exact ⟨j, x, hj1, by rw [List.getElem?_eq_getElem hj1, hj2], h⟩
  clear mn' mn hk hge
  (conv => whnf)
  (repeat (first | (refine numP.mk ?_ ?_; exact fN; conv => whnf) | ((first | apply loadP_get | apply loadP_agg' | apply storeP_getR); exact atT; rfl; conv => whnf) | ((first | apply loadP_cells0 | apply loadP_cellsA | apply idxP_sl); (first | exact ceC | exact slC); (first | rfl | assumption); (try intro _ _ _); conv => whnf) | (apply loadP_cells; exact ceC; rfl; conv => whnf)))
  have lbs := kb'.lt
  have lbr := kr'.lt
  have e01 : Ext Hd (dropB (H4.size + 1) H') := ⟨fun d x hd => ⟨by show (if d = H4.size + 1 then none else H'.get d) = _; rw [if_neg (by have := hd.lt; omega)]; exact (e'.at' _ _ hd).get, (e'.at' _ _ hd).lt⟩, e'.size⟩
  have kr2 : At (dropB (H4.size + 1) H') H4.size (.cells false 1 (rd.flatMap encBo)) := ⟨by show (if H4.size = H4.size + 1 then none else H'.get H4.size) = _; rw [if_neg (by omega)]; exact kr'.get, kr'.lt⟩
  have eb : Ext (dropB (H4.size + 1) H') H' := Mod.toDrop (Mod.ofExt (Ext.refl _))
  generalize hHB : dropB (H4.size + 1) H' = HB at e01 kr2 eb
  have sb : HB.size = H'.size := by rw [← hHB]; rfl
  have nB : HB.get (H4.size + 1) = none := by rw [← hHB]; exact if_pos rfl
  clear hHB
  have f1 := e01.at' _ _ f1
  have f2 := e01.at' _ _ f2
  have e0B := e0.trans e01
  refine loop_pins (CallMono.acall hB) (σ := Nat × Option Addr × Nat × List (RowC Bool))
    (fun z => [(5, .pointer (some ⟨H.size, 0, none⟩)), (6, .pointer (some ⟨H.size + 1, 0, none⟩)), (17, .pointer (some ⟨H4.size + 1, 0, none⟩)), (118, .int .i64 (c.nt : Int)), (119, .int .i64 (z.1 : Int))])
    (fun z H2 => Ext HB H2 ∧ At H2 (H4.size + 1) (.cells false 0 (encSta c b r.cell H4.size z.2.1 z.2.2.2.length z.2.2.1 none 0 0)) ∧ Mine HB H2 1 z.2.1 z.2.2.2.length z.2.2.1 (z.2.2.2.flatMap encRow) ∧ z.2.2.2.length = z.1 ∧ z.1 ≤ c.nt ∧
      RowsB HB H2 encBo z.2.1 z.2.2.2 ∧ (∀ x ∈ z.2.2.2, x.l.length = c.nd)) (fun z => c.nt - z.1) (0, none, 0, []) ?_ ?_ ?_
  · exact ⟨rfl, rfl, rfl, rfl, rfl, trivial⟩
  · exact ⟨eb, kb', .nil, rfl, Nat.zero_le _, (by intro x hx; cases hx), (by intro x hx; cases hx)⟩
  rintro ⟨t, pc, cc, rows⟩ E H2 ⟨e2, kb2, mt, hlen, ht2, rb, rnd⟩
  simp only at e2 kb2 mt hlen ht2 rb rnd
  (conv => whnf)
  refine ifP.mk (fun hlt => ?_) (fun hge => ?_)
  · have hlt' : t < c.nt := by have h0 : (t : Int) < (c.nt : Int) := hlt; omega
    have g1 := e2.at' _ _ f1
    have s2 := e2.size
    (conv => whnf)
    (repeat (first | (refine numP.mk ?_ ?_; exact fN; conv => whnf) | ((first | apply loadP_get | apply loadP_agg' | apply storeP_getR); exact atT; rfl; conv => whnf) | ((first | apply loadP_cells0 | apply loadP_cellsA | apply idxP_sl); (first | exact ceC | exact slC); (first | rfl | assumption); (try intro _ _ _); conv => whnf) | (apply loadP_cells; exact ceC; rfl; conv => whnf)))
    refine makeP_ok (by omega) (by omega) (by omega) ?_
    (conv => whnf)
    (repeat (first | (refine numP.mk ?_ ?_; exact fN; conv => whnf) | ((first | apply loadP_get | apply loadP_agg' | apply storeP_getR); exact atT; rfl; conv => whnf) | ((first | apply loadP_cells0 | apply loadP_cellsA | apply idxP_sl); (first | exact ceC | exact slC); (first | rfl | assumption); (try intro _ _ _); conv => whnf) | (apply loadP_cells; exact ceC; rfl; conv => whnf)))
    have hrep : repl c.nd [.bool false] = (List.replicate c.nd false).flatMap encBo := repl_flat (enc := encBo) (x := false) rfl c.nd
    refine loop_pins (CallMono.acall hB) (σ := Nat × List Bool)
      (fun z => [(5, .pointer (some ⟨H.size, 0, none⟩)), (6, .pointer (some ⟨H.size + 1, 0, none⟩)), (17, .pointer (some ⟨H4.size + 1, 0, none⟩)), (24, .int .i64 (t : Int)), (25, .slice (some ⟨H2.size, 0, none⟩) c.nd c.nd), (118, .int .i64 (c.nt : Int)), (119, .int .i64 (t : Int)), (127, .int .i64 (c.nd : Int)), (128, .int .i64 (z.1 : Int))])
      (fun z H3 => Ext H2 H3 ∧ At H3 H2.size (.cells false 1 (z.2.flatMap encBo)) ∧ z.2.length = c.nd ∧ z.1 ≤ c.nd) (fun z => c.nd - z.1) (0, List.replicate c.nd false) ?_ ?_ ?_
    · exact ⟨rfl, rfl, rfl, rfl, rfl, rfl, rfl, rfl, rfl, trivial⟩
    · exact ⟨(Ext.refl _).push, by rw [← hrep]; exact At.self, by simp, Nat.zero_le _⟩
    rintro ⟨u, row⟩ E H3 ⟨e3, k3, hrl, hu⟩
    simp only at e3 k3 hrl hu
    have e23 := e2.trans e3
    have g1 := e23.at' _ _ f1
    have g2 := e23.at' _ _ f2
    (conv => whnf)
    refine ifP.mk (fun hlt => ?_) (fun hge => ?_)
    · have hlt' : u < c.nd := by have h0 : (u : Int) < (c.nd : Int) := hlt; omega
      (conv => whnf)
      (repeat (first | (refine numP.mk ?_ ?_; exact fN; conv => whnf) | ((first | apply loadP_get | apply loadP_agg' | apply storeP_getR); exact atT; rfl; conv => whnf) | ((first | apply loadP_cells0 | apply loadP_cellsA | apply idxP_sl); (first | exact ceC | exact slC); (first | rfl | assumption); (try intro _ _ _); conv => whnf) | (apply loadP_cells; exact ceC; rfl; conv => whnf)))
      refine callP_fn ?_
      refine s121 hB (hc.ext (e0B.trans e23)) ok hlt' (by assumption) okb.draught fun H7 a b' e7 => ?_
      have k7 := e7.at' _ _ k3
      have l7 := k7.lt
      have g2 := (e23.trans e7).at' _ _ f2
      have g1 := (e23.trans e7).at' _ _ f1
      have cw := (hc.ext ((e0B.trans e23).trans e7)).swell
      obtain ⟨z, hz⟩ : ∃ z, c.swell[t]? = some z := ⟨c.swell[t]'(by omega), by simp⟩
      obtain ⟨w0, hw0⟩ : ∃ w0, row[u]? = some w0 := ⟨row[u]'(by omega), by simp⟩
      have inv : ∀ val : Bool, Ext H2 (H7.set H2.size (.cells false 1 ((row.set u val).flatMap encBo))) ∧ At (H7.set H2.size (.cells false 1 ((row.set u val).flatMap encBo))) H2.size (.cells false 1 ((row.set u val).flatMap encBo)) ∧ (row.set u val).length = c.nd ∧ u + 1 ≤ c.nd :=
        fun val => ⟨(e3.trans e7).set (Nat.le_refl _), .setSelf l7, by rw [List.length_set]; exact hrl, by omega⟩
      cases a
      · skip
        (conv => whnf)
        (repeat (first | (refine numP.mk ?_ ?_; exact fN; conv => whnf) | ((first | apply loadP_get | apply loadP_agg' | apply storeP_getR); exact atT; rfl; conv => whnf) | ((first | apply loadP_cells0 | apply loadP_cellsA | apply idxP_sl); (first | exact ceC | exact slC); (first | rfl | assumption); (try intro _ _ _); conv => whnf) | (apply loadP_cells; exact ceC; rfl; conv => whnf)))
        refine idxP_slice (by omega) (by omega) ?_
        (conv => whnf)
        refine storeP_elem (enc := encBo) (l := row) (k := u) (f := 0) (x := w0) (y := false) k7 (fun _ _ => rfl) hw0 (by omega) rfl (by decide) rfl rfl ?_
        (conv => whnf)
        (repeat (first | (refine numP.mk ?_ ?_; exact fN; conv => whnf) | ((first | apply loadP_get | apply loadP_agg' | apply storeP_getR); exact atT; rfl; conv => whnf) | ((first | apply loadP_cells0 | apply loadP_cellsA | apply idxP_sl); (first | exact ceC | exact slC); (first | rfl | assumption); (try intro _ _ _); conv => whnf) | (apply loadP_cells; exact ceC; rfl; conv => whnf)))
        exact ⟨(u + 1, row.set u false), ⟨rfl, rfl, rfl, rfl, rfl, rfl, rfl, rfl, rfl, trivial⟩, inv false, by simp only; omega⟩
      · (conv => whnf)
        (repeat (first | (refine numP.mk ?_ ?_; exact fN; conv => whnf) | ((first | apply loadP_get | apply loadP_agg' | apply storeP_getR); exact atT; rfl; conv => whnf) | ((first | apply loadP_cells0 | apply loadP_cellsA | apply idxP_sl); (first | exact ceC | exact slC); (first | rfl | assumption); (try intro _ _ _); conv => whnf) | (apply loadP_cells; exact ceC; rfl; conv => whnf)))
        refine ifP.mk (fun (a2 : z ≤ b.seas) => ?_) (fun (a2 : ¬ z ≤ b.seas) => ?_)
        · skip
          (conv => whnf)
          (repeat (first | (refine numP.mk ?_ ?_; exact fN; conv => whnf) | ((first | apply loadP_get | apply loadP_agg' | apply storeP_getR); exact atT; rfl; conv => whnf) | ((first | apply loadP_cells0 | apply loadP_cellsA | apply idxP_sl); (first | exact ceC | exact slC); (first | rfl | assumption); (try intro _ _ _); conv => whnf) | (apply loadP_cells; exact ceC; rfl; conv => whnf)))
          refine idxP_slice (by omega) (by omega) ?_
          (conv => whnf)
          refine storeP_elem (enc := encBo) (l := row) (k := u) (f := 0) (x := w0) (y := true) k7 (fun _ _ => rfl) hw0 (by omega) rfl (by decide) rfl rfl ?_
          (conv => whnf)
          (repeat (first | (refine numP.mk ?_ ?_; exact fN; conv => whnf) | ((first | apply loadP_get | apply loadP_agg' | apply storeP_getR); exact atT; rfl; conv => whnf) | ((first | apply loadP_cells0 | apply loadP_cellsA | apply idxP_sl); (first | exact ceC | exact slC); (first | rfl | assumption); (try intro _ _ _); conv => whnf) | (apply loadP_cells; exact ceC; rfl; conv => whnf)))
          exact ⟨(u + 1, row.set u true), ⟨rfl, rfl, rfl, rfl, rfl, rfl, rfl, rfl, rfl, trivial⟩, inv true, by simp only; omega⟩
        · skip
          (conv => whnf)
          (repeat (first | (refine numP.mk ?_ ?_; exact fN; conv => whnf) | ((first | apply loadP_get | apply loadP_agg' | apply storeP_getR); exact atT; rfl; conv => whnf) | ((first | apply loadP_cells0 | apply loadP_cellsA | apply idxP_sl); (first | exact ceC | exact slC); (first | rfl | assumption); (try intro _ _ _); conv => whnf) | (apply loadP_cells; exact ceC; rfl; conv => whnf)))
          refine idxP_slice (by omega) (by omega) ?_
          (conv => whnf)
          refine storeP_elem (enc := encBo) (l := row) (k := u) (f := 0) (x := w0) (y := false) k7 (fun _ _ => rfl) hw0 (by omega) rfl (by decide) rfl rfl ?_
          (conv => whnf)
          (repeat (first | (refine numP.mk ?_ ?_; exact fN; conv => whnf) | ((first | apply loadP_get | apply loadP_agg' | apply storeP_getR); exact atT; rfl; conv => whnf) | ((first | apply loadP_cells0 | apply loadP_cellsA | apply idxP_sl); (first | exact ceC | exact slC); (first | rfl | assumption); (try intro _ _ _); conv => whnf) | (apply loadP_cells; exact ceC; rfl; conv => whnf)))
          exact ⟨(u + 1, row.set u false), ⟨rfl, rfl, rfl, rfl, rfl, rfl, rfl, rfl, rfl, trivial⟩, inv false, by simp only; omega⟩
    · have hu' : u = c.nd := by have h0 : ¬ (u : Int) < (c.nd : Int) := hge; omega
      have kb3 := e3.at' _ _ kb2
      have mt3 := mt.ext e3
      (conv => whnf)
      (repeat (first | (refine numP.mk ?_ ?_; exact fN; conv => whnf) | ((first | apply loadP_get | apply loadP_agg' | apply storeP_getR); exact atT; rfl; conv => whnf) | ((first | apply loadP_cells0 | apply loadP_cellsA | apply idxP_sl); (first | exact ceC | exact slC); (first | rfl | assumption); (try intro _ _ _); conv => whnf) | (apply loadP_cells; exact ceC; rfl; conv => whnf)))
      generalize hH : H3.push _ = H7
      have e7 : Ext H3 H7 := by rw [← hH]; exact exT
      have kx : At H7 H3.size (.cells false 1 [.slice (some ⟨H2.size, 0, none⟩) c.nd c.nd]) := by rw [← hH]; exact atT
      have s7 : H7.size = H3.size + 1 := by rw [← hH]; rfl
      clear hH
      refine appendP_mine (p := pc) (n := rows.length) (c := cc) (m := 1) (xs := [.slice (some ⟨H2.size, 0, none⟩) c.nd c.nd]) (e23.trans e7) (mt3.ext e7) (Src.ofAt kx rfl) rfl (by decide) (by decide) (by omega) (by omega) fun H8 e8 s8 mt8 keep8 => ?_
      have s23 := e3.size
      have nb : ∀ a, pc = some a → a.block ≠ H4.size + 1 := fun a ha => by have := mt.ge a ha; omega
      have kb8 := keep8 _ _ (e7.at' _ _ kb3) nb
      have lb8 := kb8.lt
      (conv => whnf)
      (repeat (first | (refine numP.mk ?_ ?_; exact fN; conv => whnf) | ((first | apply loadP_get | apply loadP_agg' | apply storeP_getR); exact atT; rfl; conv => whnf) | ((first | apply loadP_cells0 | apply loadP_cellsA | apply idxP_sl); (first | exact ceC | exact slC); (first | rfl | assumption); (try intro _ _ _); conv => whnf) | (apply loadP_cells; exact ceC; rfl; conv => whnf)))
      refine ⟨(t + 1, some ⟨H7.size, 0, none⟩, openCap, rows ++ [⟨some ⟨H2.size, 0, none⟩, row.length, c.nd, row⟩]), ⟨rfl, rfl, rfl, rfl, rfl, trivial⟩, ⟨Ext.setNone e8 nB, ?_, ?_, by simp only [List.length_append, List.length_cons, List.length_nil]; omega, by simp only; omega, ?_, ?_⟩, by simp only; omega⟩
      · simp only [List.length_append, List.length_cons, List.length_nil]
        exact At.setSelf lb8
      · have hfm : (rows ++ [⟨some ⟨H2.size, 0, none⟩, row.length, c.nd, row⟩] : List (RowC Bool)).flatMap encRow = rows.flatMap encRow ++ [.slice (some ⟨H2.size, 0, none⟩) c.nd c.nd] := by
          rw [List.flatMap_append]
          simp [encRow, hrl]
        simp only [List.length_append, List.length_cons, List.length_nil]
        rw [hfm]
        exact mt8.keep (q := some ⟨H4.size + 1, 0, none⟩) (fun d x hd hne => hd.setNe fun e => hne _ rfl e.symm) (fun a b' ha hb he => by cases ha; cases hb; have he : H4.size + 1 = H7.size := he; omega)
      · exact rb.step (e3.trans e7) (by omega) s2 (Nat.le_refl _) (e7.at' _ _ k3) keep8 (fun a ha => mt.lt a ha) (Nat.le_refl _)
      · intro x hx
        rcases List.mem_append.1 hx with hx | hx
        · exact rnd x hx
        · simp at hx; subst hx; exact hrl
  · have ht' : t = c.nt := by have h0 : ¬ (t : Int) < (c.nt : Int) := hge; omega
    subst ht'
    have g1 := e2.at' _ _ f1
    have lb2 := kb2.lt
    have s2 := e2.size
    (conv => whnf)
    (repeat (first | (refine numP.mk ?_ ?_; exact fN; conv => whnf) | ((first | apply loadP_get | apply loadP_agg' | apply storeP_getR); exact atT; rfl; conv => whnf) | ((first | apply loadP_cells0 | apply loadP_cellsA | apply idxP_sl); (first | exact ceC | exact slC); (first | rfl | assumption); (try intro _ _ _); conv => whnf) | (apply loadP_cells; exact ceC; rfl; conv => whnf)))
    have ec : Ext (dropB (H4.size + 1) H2) H2 := Mod.toDrop (Mod.ofExt (Ext.refl _))
    have toC : ∀ d x, At H2 d x → d ≠ H4.size + 1 → At (dropB (H4.size + 1) H2) d x := fun d x hd hne => ⟨(if_neg hne).trans hd.get, hd.lt⟩
    have f1 := toC _ _ g1 (by have := f1.lt; omega)
    have krC := toC _ _ (e2.at' _ _ kr2) (by omega)
    have e0C : Ext H (dropB (H4.size + 1) H2) := ⟨fun d x hd => toC _ _ ((e0B.trans e2).at' _ _ hd) (by have := hd.lt; have := e0.size; omega), (e0B.trans e2).size⟩
    have mtC : Mine HB (dropB (H4.size + 1) H2) 1 pc rows.length cc (rows.flatMap encRow) := mt.keep (q := some ⟨H4.size + 1, 0, none⟩) (fun d x hd hne => toC _ _ hd fun e => hne _ rfl e.symm) (fun a b' ha hb he => by cases ha; have := mt.ge b' hb; have he : H4.size + 1 = b'.block := he; omega)
    have rbC : RowsB HB (dropB (H4.size + 1) H2) encBo pc rows := fun x hx => by
      obtain ⟨bx, q1, q2, q3, q4, q5⟩ := rb x hx
      exact ⟨bx, q1, q2, q3, q4, toC _ _ q5 (by omega)⟩
    generalize hHC : dropB (H4.size + 1) H2 = HC at ec f1 krC e0C mtC rbC
    have sc : HC.size = H2.size := by rw [← hHC]; rfl
    have nC : HC.get (H4.size + 1) = none := by rw [← hHC]; exact if_pos rfl
    clear hHC toC
    refine loop_pins (CallMono.acall hB) (σ := Nat × Option Addr × Nat × List (RowC Int))
      (fun z => [(5, .pointer (some ⟨H.size, 0, none⟩)), (17, .pointer (some ⟨H4.size + 1, 0, none⟩)), (169, .int .i64 (c.nd : Int)), (170, .int .i64 (z.1 : Int))])
      (fun z H3 => Ext HC H3 ∧ At H3 (H4.size + 1) (.cells false 0 (encSta c b r.cell H4.size pc rows.length cc z.2.1 z.2.2.2.length z.2.2.1)) ∧ Mine HC H3 1 z.2.1 z.2.2.2.length z.2.2.1 (z.2.2.2.flatMap encRow) ∧ z.2.2.2.length = z.1 ∧ z.1 ≤ c.nd ∧
        RowsB HC H3 encI z.2.1 z.2.2.2 ∧ (∀ x ∈ z.2.2.2, (∀ v ∈ x.l, 0 ≤ v ∧ v < c.nd) ∧ x.l.length ≤ 7)) (fun z => c.nd - z.1) (0, none, 0, []) ?_ ?_ ?_
    · exact ⟨rfl, rfl, rfl, rfl, trivial⟩
    · exact ⟨ec, kb2, .nil, rfl, Nat.zero_le _, (by intro x hx; cases hx), (by intro x hx; cases hx)⟩
    rintro ⟨t, pn, cn, nrows⟩ E H3 ⟨e3, kb3, mn3, hlen3, ht3, rn3, nr3⟩
    simp only at e3 kb3 mn3 hlen3 ht3 rn3 nr3
    (conv => whnf)
    refine ifP.mk (fun hlt => ?_) (fun hge => ?_)
    · have hlt' : t < c.nd := by have h0 : (t : Int) < (c.nd : Int) := hlt; omega
      have g1 := e3.at' _ _ f1
      have s3 := e3.size
      (conv => whnf)
      (repeat (first | (refine numP.mk ?_ ?_; exact fN; conv => whnf) | ((first | apply loadP_get | apply loadP_agg' | apply storeP_getR); exact atT; rfl; conv => whnf) | ((first | apply loadP_cells0 | apply loadP_cellsA | apply idxP_sl); (first | exact ceC | exact slC); (first | rfl | assumption); (try intro _ _ _); conv => whnf) | (apply loadP_cells; exact ceC; rfl; conv => whnf)))
      refine loop_pins (CallMono.acall hB) (σ := Nat × Nat × Nat × List Int)
        (fun z => [(5, .pointer (some ⟨H.size, 0, none⟩)), (17, .pointer (some ⟨H4.size + 1, 0, none⟩)), (30, .int .i64 (t : Int)), (31, .slice (some ⟨z.2.1, 0, none⟩) z.2.2.2.length z.2.2.1), (169, .int .i64 (c.nd : Int)), (170, .int .i64 (t : Int)), (175, .int .i64 (z.1 : Int))])
        (fun z H5 => Ext H3 H5 ∧ H3.size ≤ z.2.1 ∧ At H5 z.2.1 (.cells false 1 (z.2.2.2.flatMap encI)) ∧ (z.2.2.1 = z.2.2.2.length ∨ z.2.2.1 = openCap) ∧ z.2.2.2.length ≤ z.1 + 1 ∧ z.1 ≤ 6 ∧ (∀ v ∈ z.2.2.2, 0 ≤ v ∧ v < c.nd)) (fun z => 6 - z.1) (0, H3.size, 1, [(t : Int)]) ?_ ?_ ?_
      · exact ⟨rfl, rfl, rfl, rfl, rfl, rfl, rfl, trivial⟩
      · exact ⟨(Ext.refl _).push, Nat.le_refl _, At.self, .inl rfl, by simp, by simp, by simp; omega⟩
      rintro ⟨d, bk, cx, l⟩ E H5 ⟨e5, hbk, k5, hcx, hll, hd6, hin⟩
      simp only at e5 hbk k5 hcx hll hd6 hin
      have e35 := e3.trans e5
      have g1 := e35.at' _ _ f1
      have own : Own H3 H5 1 (some ⟨bk, 0, none⟩) l.length cx (l.flatMap encI) := by
        rcases hcx with rfl | rfl
        · exact .src (Src.ofAt k5 (flat_length l (fun _ _ => rfl)))
        · exact .mk hbk k5 (flat_length l (fun _ _ => rfl))
      (conv => whnf)
      refine ifP.mk (fun hlt => ?_) (fun hge => ?_)
      · have hd' : d < 6 := by have h0 : (d : Int) < 6 := hlt; omega
        (conv => whnf)
        (repeat (first | (refine numP.mk ?_ ?_; exact fN; conv => whnf) | ((first | apply loadP_get | apply loadP_agg' | apply storeP_getR); exact atT; rfl; conv => whnf) | ((first | apply loadP_cells0 | apply loadP_cellsA | apply idxP_sl); (first | exact ceC | exact slC); (first | rfl | assumption); (try intro _ _ _); conv => whnf) | (apply loadP_cells; exact ceC; rfl; conv => whnf)))
        refine callP_fn ?_
        refine s122 hB (hc.ext (e0C.trans e35)) ok ((e0C.trans e35).at' _ _ hW) hlt' (by show 0 ≤ (d : Int) ∧ (d : Int) ≤ 5; omega) (fun H7 v e7 v1 v2 => ?_) (fun H7 e7 => ?_)
        · (conv => whnf)
          (refine ifP_y (by decide) ?_; conv => whnf)
          (repeat (first | (refine numP.mk ?_ ?_; exact fN; conv => whnf) | ((first | apply loadP_get | apply loadP_agg' | apply storeP_getR); exact atT; rfl; conv => whnf) | ((first | apply loadP_cells0 | apply loadP_cellsA | apply idxP_sl); (first | exact ceC | exact slC); (first | rfl | assumption); (try intro _ _ _); conv => whnf) | (apply loadP_cells; exact ceC; rfl; conv => whnf)))
          generalize hH : H7.push _ = H8
          have e8 : Ext H7 H8 := by rw [← hH]; exact exT
          have kx : At H8 H7.size (.cells false 1 [.int .i64 v]) := by rw [← hH]; exact atT
          clear hH
          refine appendP_own (H0 := H3) (p := some ⟨bk, 0, none⟩) (n := l.length) (c := cx) (m := 1) (C := l.flatMap encI) (xs := [.int .i64 v]) ((e5.trans e7).trans e8) (own.mono (e7.trans e8)) (Src.ofAt kx rfl) rfl (by decide) (by decide) (by omega) (by omega) fun b9 H9 e9 hb9 k9 _ => ?_
          (conv => whnf)
          (repeat (first | (refine numP.mk ?_ ?_; exact fN; conv => whnf) | ((first | apply loadP_get | apply loadP_agg' | apply storeP_getR); exact atT; rfl; conv => whnf) | ((first | apply loadP_cells0 | apply loadP_cellsA | apply idxP_sl); (first | exact ceC | exact slC); (first | rfl | assumption); (try intro _ _ _); conv => whnf) | (apply loadP_cells; exact ceC; rfl; conv => whnf)))
          refine ⟨(d + 1, b9, openCap, l ++ [v]), ⟨rfl, rfl, rfl, ?_, rfl, rfl, rfl, trivial⟩, ⟨e9, hb9, ?_, .inr rfl, by simp only [List.length_append, List.length_cons, List.length_nil]; omega, by simp only; omega, ?_⟩, by simp only; omega⟩
          · simp only [List.length_append, List.length_cons, List.length_nil]; rfl
          · simp only [List.flatMap_append]; exact k9
          · intro u hu
            rcases List.mem_append.1 hu with hu | hu
            · exact hin u hu
            · simp at hu; subst hu; exact ⟨v1, v2⟩
        · (conv => whnf)
          (refine ifP_n (by decide) ?_; conv => whnf)
          (repeat (first | (refine numP.mk ?_ ?_; exact fN; conv => whnf) | ((first | apply loadP_get | apply loadP_agg' | apply storeP_getR); exact atT; rfl; conv => whnf) | ((first | apply loadP_cells0 | apply loadP_cellsA | apply idxP_sl); (first | exact ceC | exact slC); (first | rfl | assumption); (try intro _ _ _); conv => whnf) | (apply loadP_cells; exact ceC; rfl; conv => whnf)))
          exact ⟨(d + 1, bk, cx, l), ⟨rfl, rfl, rfl, rfl, rfl, rfl, rfl, trivial⟩, ⟨e5.trans e7, hbk, e7.at' _ _ k5, hcx, by simp only; omega, by simp only; omega, hin⟩, by simp only; omega⟩
      · have kb5 := e5.at' _ _ kb3
        have lb5 := kb5.lt
        (conv => whnf)
        (repeat (first | (refine numP.mk ?_ ?_; exact fN; conv => whnf) | ((first | apply loadP_get | apply loadP_agg' | apply storeP_getR); exact atT; rfl; conv => whnf) | ((first | apply loadP_cells0 | apply loadP_cellsA | apply idxP_sl); (first | exact ceC | exact slC); (first | rfl | assumption); (try intro _ _ _); conv => whnf) | (apply loadP_cells; exact ceC; rfl; conv => whnf)))
        generalize hH : H5.push _ = H7
        have e7 : Ext H5 H7 := by rw [← hH]; exact exT
        have kx : At H7 H5.size (.cells false 1 [.slice (some ⟨bk, 0, none⟩) l.length cx]) := by rw [← hH]; exact atT
        have s7 : H7.size = H5.size + 1 := by rw [← hH]; rfl
        clear hH
        have s5 := e5.size
        refine appendP_mine (p := pn) (n := nrows.length) (c := cn) (m := 1) (xs := [.slice (some ⟨bk, 0, none⟩) l.length cx]) (e35.trans e7) ((mn3.ext e5).ext e7) (Src.ofAt kx rfl) rfl (by decide) (by decide) (by omega) (by omega) fun H8 e8 s8 mt8 keep8 => ?_
        have nb : ∀ a, pn = some a → a.block ≠ H4.size + 1 := fun a ha => by have := mn3.ge a ha; omega
        have kb8 := keep8 _ _ (e7.at' _ _ kb5) nb
        have lb8 := kb8.lt
        (conv => whnf)
        (repeat (first | (refine numP.mk ?_ ?_; exact fN; conv => whnf) | ((first | apply loadP_get | apply loadP_agg' | apply storeP_getR); exact atT; rfl; conv => whnf) | ((first | apply loadP_cells0 | apply loadP_cellsA | apply idxP_sl); (first | exact ceC | exact slC); (first | rfl | assumption); (try intro _ _ _); conv => whnf) | (apply loadP_cells; exact ceC; rfl; conv => whnf)))
        refine ⟨(t + 1, some ⟨H7.size, 0, none⟩, openCap, nrows ++ [⟨some ⟨bk, 0, none⟩, l.length, cx, l⟩]), ⟨rfl, rfl, rfl, rfl, trivial⟩, ⟨Ext.setNone e8 nC, ?_, ?_, by simp only [List.length_append, List.length_cons, List.length_nil]; omega, by simp only; omega, ?_, ?_⟩, by simp only; omega⟩
        · simp only [List.length_append, List.length_cons, List.length_nil]
          exact At.setSelf lb8
        · have hfm : (nrows ++ [⟨some ⟨bk, 0, none⟩, l.length, cx, l⟩] : List (RowC Int)).flatMap encRow = nrows.flatMap encRow ++ [.slice (some ⟨bk, 0, none⟩) l.length cx] := by
            rw [List.flatMap_append]
            simp [encRow]
          simp only [List.length_append, List.length_cons, List.length_nil]
          rw [hfm]
          exact mt8.keep (q := some ⟨H4.size + 1, 0, none⟩) (fun d x hd hne => hd.setNe fun e => hne _ rfl e.symm) (fun a b' ha hb he => by cases ha; cases hb; have he : H4.size + 1 = H7.size := he; omega)
        · exact rn3.step (e5.trans e7) (by omega) s3 hbk (e7.at' _ _ k5) keep8 (fun a ha => mn3.lt a ha) (Nat.le_refl _)
        · intro x hx
          rcases List.mem_append.1 hx with hx | hx
          · exact nr3 x hx
          · simp at hx; subst hx; exact ⟨hin, by simp only; omega⟩
    · have ht' : t = c.nd := by have h0 : ¬ (t : Int) < (c.nd : Int) := hge; omega
      (conv => whnf)
      refine h1 _ _ _ rd pc rows.length cc rows pn nrows.length cn nrows (e0C.trans e3) rok ⟨kb3, e3.at' _ _ krC, (mtC.ext e3).own.srcOf.slP rfl fun _ _ => rfl, hlen, fun x hx => ?_, mn3.own.srcOf.slP rfl fun _ _ => rfl, by omega, fun x hx => ?_⟩
      · obtain ⟨bx, q1, q2, q3, q4, q5⟩ := (rbC.ext e3) x hx
        refine ⟨?_, q4.trans (rnd x hx)⟩
        rw [q1]
        exact (Src.ofAt q5 (by have q6 := flat_length (enc := encBo) (esz := 1) x.l (fun _ _ => rfl); rw [q6, q4])).slP q4 fun _ _ => rfl
      · obtain ⟨bx, q1, q2, q3, q4, q5⟩ := rn3 x hx
        refine ⟨?_, (nr3 x hx).1, by rw [q4]; exact (nr3 x hx).2⟩
        rw [q1]
        exact (Src.ofAt q5 (by have q6 := flat_length (enc := encI) (esz := 1) x.l (fun _ _ => rfl); rw [q6, q4])).slP q4 fun _ _ => rfl
end LV
