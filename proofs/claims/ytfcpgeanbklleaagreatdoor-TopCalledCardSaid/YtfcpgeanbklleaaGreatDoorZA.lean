/- The arguments of TopAnswered, told out of a reading, and the table in the block of the package variable. -/
import Derived.Test.YtfcpgeanbklleaaGreatDoorDecode
import Derived.Test.YtfcpgeanbklleaaGreatDoorFL
import Derived.Test.YtfcpgeanbklleaaGreatDoorW1
import Derived.Deep.Strs
import Derived.Lib.SmallJoins
import Derived.ProofKit
import Derived.LaidMore
import Derived.OpenShut
import Derived.Test.YtfcpgeanbklleaaGreatDoorRows
set_option linter.unusedSectionVars false
set_option linter.unusedSimpArgs false
set_option linter.unusedVariables false
namespace LV
open Go Ab Go.Proofs Go.Proofs.YtfcpgeanbklleaaGreatDoor Go.ChangeShapes Go.WideShapes Go.RowKit
set_option maxRecDepth 100000

theorem gWays : Tryz.prog.globalNamed "coble/chart.ways" = some 0 := by kernel_rfl
theorem tWays : (Tryz.prog.globals[0]?).map (·.type) = some 282 := by kernel_rfl
theorem c3' : Tryz.prog.cellsOf 3 = 1 := by kernel_rfl
theorem c42' : Tryz.prog.cellsOf 42 = 2 := by kernel_rfl
theorem c43' : Tryz.prog.cellsOf 43 = 1 := by kernel_rfl
theorem c45' : Tryz.prog.cellsOf 45 = 5 := by kernel_rfl
theorem c50' : Tryz.prog.cellsOf 50 = 3 := by kernel_rfl
theorem c281' : Tryz.prog.cellsOf 281 = 3 := by kernel_rfl
theorem c282' : Tryz.prog.cellsOf 282 = 18 := by kernel_rfl

section
variable {K : Type} {enc0 : TypeId × Value → K} {W : World} {base : Nat} {spare : Nat → Bool} {held : Bool}

theorem int3 {n : Nat} {cs : List Value} {y : DataW K × List MemPlace} (h : DataW.trod enc0 Tryz.prog W base spare held n 3 cs = some y) : ∃ k : Int, cs = [.int .i64 k] ∧ y.1 = .lit (.int .i64 k) := by
  obtain ⟨k, h1, h2, _⟩ := DataW.trod_int Tryz.underlying3 h
  exact ⟨k, h1, by rw [h2]⟩

theorem way {n : Nat} {cs : List Value} {y : DataW K × List MemPlace} {a b c : Int} (h : DataW.trod enc0 Tryz.prog W base spare held n 281 cs = some y) (hy : y.1 = .agg [.lit (.int .i64 a), .lit (.int .i64 b), .lit (.int .i64 c)]) : cs = [.int .i64 a, .int .i64 b, .int .i64 c] := by
  obtain ⟨y0, y1, y2, m, rfl, hl, h0, h1, h2⟩ := Deep.trod_struct3 Tryz.underlying281 h
  rw [c281'] at hl
  obtain ⟨k0, e0, r0⟩ := int3 h0
  obtain ⟨k1, e1, r1⟩ := int3 h1
  obtain ⟨k2, e2, r2⟩ := int3 h2
  simp only [c3'] at e0 e1 e2
  simp only [r0, r1, r2, DataW.agg.injEq, List.cons.injEq, DataW.lit.injEq, Lit.int.injEq, true_and, and_true] at hy
  obtain ⟨rfl, rfl, rfl⟩ := hy
  match cs, hl with
  | [x0, x1, x2], _ =>
    simp at e0 e1 e2
    rw [e0, e1, e2]

/-- WHAT THE CONDITION SAYS: the cells of the package variable. -/
theorem ways_laid {W : World} (h : laidMetH Tryz.prog [("coble/chart.ways", Rows.laid_coble_chart_ways)] W) : ∃ c t fz, W.heap[0]? = some (.cells c t fz) ∧ c.toList = lvWays := by
  rw [MakeChecks.laidMetH_plain _ _ _ (by kernel_rfl)] at h
  obtain ⟨ps, ⟨g0, t0, cs0, f0, p0, q0, hg0, ht0, hv0, hd0, _, _⟩, _, _⟩ := h
  obtain rfl := Option.some.inj (gWays.symm.trans hg0)
  obtain rfl := Option.some.inj (tWays.symm.trans ht0)
  obtain ⟨xs, m, rfl, hx, hl, hn, hel⟩ := DataW.trod_array Tryz.underlying282 hd0
  rw [c281'] at hel
  rw [c282'] at hl
  have hcs : cs0.toList = lvWays := by
    match xs, hn, hx, hel with
    | [x0, x1, x2, x3, x4, x5], _, hx, hel =>
      simp only [Prod.mk.injEq, Rows.laid_coble_chart_ways, DataW.agg.injEq, List.map_cons, List.map_nil, List.cons.injEq, and_true] at hx
      obtain ⟨⟨q0, q1, q2, q3, q4, q5⟩, _⟩ := hx
      have w0 := way (hel 0 (by decide)) q0.symm
      have w1 := way (hel 1 (by decide)) q1.symm
      have w2 := way (hel 2 (by decide)) q2.symm
      have w3 := way (hel 3 (by decide)) q3.symm
      have w4 := way (hel 4 (by decide)) q4.symm
      have w5 := way (hel 5 (by decide)) q5.symm
      generalize hcs : cs0.toList = l at hl w0 w1 w2 w3 w4 w5 ⊢
      match l, hl with
      | [a0, a1, a2, a3, a4, a5, a6, a7, a8, a9, a10, a11, a12, a13, a14, a15, a16, a17], _ =>
        simp at w0 w1 w2 w3 w4 w5
        simp [lvWays, w0, w1, w2, w3, w4, w5]
  simp only [World.var?, hg0, Option.bind_some] at hv0
  split at hv0
  · rename_i hc
    cases hv0
    exact ⟨_, _, _, hc, hcs⟩
  · cases hv0

theorem dec_int (bs : List Blk) (ss : List Spot) (n : Nat) (cs : List Value) (y : DataW K × List MemPlace) (hd : Dec Tryz.prog W bs ss) (h : DataW.trod enc0 Tryz.prog W base spare held n 3 cs = some y) :
    ∃ bs' ss' x, Dec Tryz.prog W (bs ++ bs') (ss ++ ss') ∧ VsRel (injOf (ss ++ ss')) (encI x) cs ∧ True := by
  obtain ⟨k, rfl, _⟩ := int3 h
  exact ⟨[], [], k, by simpa using hd, .cons (.int _ _) .nil, trivial⟩

theorem dec_span (bs : List Blk) (ss : List Spot) (n : Nat) (cs : List Value) (y : DataW K × List MemPlace) (hd : Dec Tryz.prog W bs ss) (h : DataW.trod enc0 Tryz.prog W base spare held n 42 cs = some y) :
    ∃ bs' ss' x, Dec Tryz.prog W (bs ++ bs') (ss ++ ss') ∧ VsRel (injOf (ss ++ ss')) (encS x) cs ∧ True := by
  obtain ⟨y0, y1, m, rfl, hl, h0, h1⟩ := trod_struct2 Tryz.underlying42 h
  rw [c42'] at hl
  obtain ⟨k0, e0, _⟩ := int3 h0
  obtain ⟨k1, e1, _⟩ := int3 h1
  simp only [c3'] at e0 e1
  match cs, hl with
  | [x0, x1], _ =>
    simp at e0 e1
    subst e0; subst e1
    exact ⟨[], [], (k0, k1), by simpa using hd, .cons (.int _ _) (.cons (.int _ _) .nil), trivial⟩

theorem dec_page (bs : List Blk) (ss : List Spot) (n : Nat) (cs : List Value) (y : DataW K × List MemPlace) (hd : Dec Tryz.prog W bs ss) (h : DataW.trod enc0 Tryz.prog W base spare held n 50 cs = some y) :
    ∃ bs' ss' x, Dec Tryz.prog W (bs ++ bs') (ss ++ ss') ∧ VsRel (injOf (ss ++ ss')) (encP x) cs ∧ True := by
  obtain ⟨y0, y1, y2, m, rfl, hl, h0, h1, h2⟩ := Deep.trod_struct3 Tryz.underlying50 h
  rw [c50'] at hl
  obtain ⟨k0, e0, _⟩ := int3 h0
  obtain ⟨k1, e1, _⟩ := int3 h1
  obtain ⟨k2, e2, _⟩ := int3 h2
  simp only [c3'] at e0 e1 e2
  match cs, hl with
  | [x0, x1, x2], _ =>
    simp at e0 e1 e2
    subst e0; subst e1; subst e2
    exact ⟨[], [], ⟨k0, k1, k2⟩, by simpa using hd, .cons (.int _ _) (.cons (.int _ _) (.cons (.int _ _) .nil)), trivial⟩

def GoodH (bs : List Blk) (h : Hd) : Prop := SlP (heapOf bs) 2 encS h.p h.n h.log ∧ (h.p = none ∨ ∃ b o, h.p = some ⟨b, o, none⟩)

theorem GoodH.mono (bs t : List Blk) (h : Hd) (hg : GoodH bs h) : GoodH (bs ++ t) h := ⟨hg.1.ext (heapOf_ext bs t), hg.2⟩

theorem dec_hand (hsp : ∀ b, spare b = true) (bs : List Blk) (ss : List Spot) (n : Nat) (cs : List Value) (y : DataW K × List MemPlace) (hd : Dec Tryz.prog W bs ss) (h : DataW.trod enc0 Tryz.prog W base spare held n 45 cs = some y) :
    ∃ bs' ss' x, Dec Tryz.prog W (bs ++ bs') (ss ++ ss') ∧ VsRel (injOf (ss ++ ss')) (encH x) cs ∧ GoodH (bs ++ bs') x := by
  obtain ⟨y0, y1, y2, y3, m, rfl, hl, h0, h1, h2, h3⟩ := Go.Joins.trod_struct4 Tryz.underlying45 h
  rw [c45'] at hl
  obtain ⟨k0, e0, _⟩ := int3 h0
  obtain ⟨k3, e3, _⟩ := int3 h3
  obtain ⟨_, _, _, _, _, r0, r1⟩ := trod_struct2 Tryz.underlying42 h1
  obtain ⟨k1, e1, _⟩ := int3 r0
  obtain ⟨k2, e2, _⟩ := int3 r1
  simp only [c3', c42'] at e0 e1 e2 e3
  obtain ⟨bs', ss', p, n', c, l, d1, d2, d3, d4, _⟩ := dec_slice c42' (by decide) (fun _ => rfl) hsp (fun _ _ => True) (fun _ _ _ _ => trivial) dec_span bs ss _ _ _ hd Tryz.underlying43 h2
  rw [c43'] at d2
  match cs, hl with
  | [x0, x1, x2, x3, x4], _ =>
    simp at e0 e1 e2 e3
    subst e0; subst e1; subst e2; subst e3
    have d2' : VsRel (injOf (ss ++ ss')) [.slice p n' c] [x3] := d2
    cases d2' with
    | cons hv _ => exact ⟨bs', ss', ⟨k0, k1, k2, p, n', c, k3, l⟩, d1, .cons (.int _ _) (.cons (.int _ _) (.cons (.int _ _) (.cons hv (.cons (.int _ _) .nil)))), d3, d4⟩
end

/-- THE THREE ARGUMENTS in an abstract heap. -/
theorem decoded {K : Type} {enc0 : TypeId × Value → K} {W : World} {base : Nat} {v0 v1 v2 : Value} {d0 d1 d2 : DataW K} {p0 p1 p2 : List MemPlace}
    (hL : laidMetH Tryz.prog [("coble/chart.ways", Rows.laid_coble_chart_ways)] W)
    (o0 : Value.okWide Tryz.prog W .any base 24 v0) (o1 : Value.okWide Tryz.prog W .any base 27 v1) (o2 : Value.okWide Tryz.prog W .any base 30 v2)
    (h0 : DataW.Trod enc0 Tryz.prog W 0 (fun _ => true) true 24 v0 d0 p0) (h1 : DataW.Trod enc0 Tryz.prog W 0 (fun _ => true) true 27 v1 d1 p1) (h2 : DataW.Trod enc0 Tryz.prog W 0 (fun _ => true) true 30 v2 d2 p2) :
    ∃ (bs : List Blk) (ss : List Spot) (s : Stn) (call len : Int) (p : Option Addr) (n c : Nat) (seats : List Int) (pp : Option Addr) (np cp : Nat) (pages : List Pg) (tick every : Int),
      Dec Tryz.prog W (.cells true 0 lvWays :: bs) (⟨0, 0, 0, 0⟩ :: ss) ∧
      VRel (injOf (⟨0, 0, 0, 0⟩ :: ss)) (.agg ⟨encSt s⟩) v0 ∧ VRel (injOf (⟨0, 0, 0, 0⟩ :: ss)) (.agg ⟨[.int .i64 call, .slice p n c, .int .i64 len]⟩) v1 ∧ VRel (injOf (⟨0, 0, 0, 0⟩ :: ss)) (.agg ⟨[.slice pp np cp, .int .i64 tick, .int .i64 every]⟩) v2 ∧
      StnAt (heapOf (.cells true 0 lvWays :: bs)) s ∧ SlP (heapOf (.cells true 0 lvWays :: bs)) 1 encI p n seats ∧ SlP (heapOf (.cells true 0 lvWays :: bs)) 3 encP pp np pages := by
  obtain ⟨c, t, fz, hc, hcs⟩ := ways_laid hL
  have hd : Dec Tryz.prog W [.cells true 0 lvWays] [⟨0, 0, 0, 0⟩] := by
    refine ⟨rfl, by simp [Blk.rw], ?_, ?_⟩
    · intro s hs
      simp at hs; subst hs
      exact (Array.getElem?_eq_some_iff.1 hc).1
    · intro i s x hs hx
      match i, hs, hx with
      | 0, hs, hx =>
        simp at hs hx
        subst hs; subst hx
        refine ⟨c, t, fz, hc, rfl, ?_, fun h => by cases h⟩
        intro i v hv
        rw [← hcs] at hv
        refine ⟨v, by simpa using hv, ?_⟩
        have hm : v ∈ lvWays := by rw [← hcs]; exact List.mem_of_getElem? hv
        have : ∀ v ∈ lvWays, isScalarCell v = true := by decide
        exact VRel.closedCell _ (this v hm)
      | i + 1, hs, hx => simp at hs
  obtain ⟨a0, a1, a2, y0, y1, y2, m0, rfl, _, _, h00, h01, h02⟩ := Go.Joins.open_agg3 Tryz.underlying24 (by kernel_rfl) (by kernel_rfl) o0 h0
  obtain ⟨b0, b1, b2, z0, z1, z2, m1, rfl, _, _, h10, h11, h12⟩ := Go.Joins.open_agg3 Tryz.underlying27 (by kernel_rfl) (by kernel_rfl) o1 h1
  obtain ⟨f0, f1, f2, x0, x1, x2, m2, rfl, _, _, h20, h21, h22⟩ := Go.Joins.open_agg3 Tryz.underlying30 (by kernel_rfl) (by kernel_rfl) o2 h2
  obtain ⟨bs1, ss1, p, n, cp, hands, d1, v1, s1, _, g1⟩ := dec_slice c45' (by decide) (fun _ => rfl) (fun _ => rfl) GoodH GoodH.mono (dec_hand fun _ => rfl) _ _ _ _ _ hd Tryz.underlying22 h00
  obtain ⟨bs2, ss2, p2, n2, cp2, seats, d2, v2, s2, _, _⟩ := dec_slice c3' (by decide) (fun _ => rfl) (fun _ => rfl) (fun _ _ => True) (fun _ _ _ _ => trivial) dec_int _ _ _ _ _ d1 Tryz.underlying25 h11
  obtain ⟨bs3, ss3, p3, n3, cp3, pages, d3, v3, s3, _, _⟩ := dec_slice c50' (by decide) (fun _ => rfl) (fun _ => rfl) (fun _ _ => True) (fun _ _ _ _ => trivial) dec_page _ _ _ _ _ d2 Tryz.underlying28 h20
  obtain ⟨k01, e01, _⟩ := int3 h01
  obtain ⟨k02, e02, _⟩ := int3 h02
  obtain ⟨k10, e10, _⟩ := int3 h10
  obtain ⟨k12, e12, _⟩ := int3 h12
  obtain ⟨k21, e21, _⟩ := int3 h21
  obtain ⟨k22, e22, _⟩ := int3 h22
  simp at e01 e02 e10 e12 e21 e22
  subst e01; subst e02; subst e10; subst e12; subst e21; subst e22
  have w1 := (v1.mono (injOf_le _ ss2)).mono (injOf_le _ ss3)
  have w2 := v2.mono (injOf_le _ ss3)
  have x1 := heapOf_ext ([Blk.cells true 0 lvWays] ++ bs1 ++ bs2) bs3
  have x2 := (heapOf_ext ([Blk.cells true 0 lvWays] ++ bs1) bs2).trans x1
  refine ⟨bs1 ++ bs2 ++ bs3, ss1 ++ ss2 ++ ss3, ⟨p, n, cp, k01, k02, hands⟩, k10, k12, p2, n2, cp2, seats, p3, n3, cp3, pages, k21, k22, ?_⟩
  have eb : (Blk.cells true 0 lvWays :: (bs1 ++ bs2 ++ bs3)) = [Blk.cells true 0 lvWays] ++ bs1 ++ bs2 ++ bs3 := by simp
  have es : ((⟨0, 0, 0, 0⟩ : Spot) :: (ss1 ++ ss2 ++ ss3)) = [(⟨0, 0, 0, 0⟩ : Spot)] ++ ss1 ++ ss2 ++ ss3 := by simp
  rw [eb, es]
  cases w1 with
  | cons w1 _ =>
  cases w2 with
  | cons w2 _ =>
  cases v3 with
  | cons w3 _ =>
  exact ⟨d3, .agg (.cons w1 (.cons (.int _ _) (.cons (.int _ _) .nil))), .agg (.cons (.int _ _) (.cons w2 (.cons (.int _ _) .nil))), .agg (.cons w3 (.cons (.int _ _) (.cons (.int _ _) .nil))),
    ⟨s1.ext x2, fun h hh => (g1 h hh).1.ext x2, fun h hh => (g1 h hh).2⟩, s2.ext x1, s3⟩
end LV
