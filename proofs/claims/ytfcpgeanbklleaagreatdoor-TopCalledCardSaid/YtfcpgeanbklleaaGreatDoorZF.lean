/- TopCalled PROVED over a reading of its arguments. -/
import Derived.Test.YtfcpgeanbklleaaGreatDoorZE
import Derived.Test.YtfcpgeanbklleaaGreatDoorCards
import Derived.Stop.Joined
import Derived.RowKit2
import Derived.Carry
set_option linter.unusedSectionVars false
set_option linter.unusedSimpArgs false
set_option linter.unusedVariables false
namespace LV
open Go Ab Go.Proofs Go.Proofs.YtfcpgeanbklleaaGreatDoor Go.ChangeShapes Go.WideShapes Go.RowKit
set_option maxRecDepth 100000

section
variable {K : Type} {enc0 : TypeId × Value → K} {W : World} {base : Nat} {spare : Nat → Bool} {held : Bool}

theorem fs58 : ∀ (i : Nat) (f : Field), (#[⟨ "Draught", 3, 0, false, "", "", 0⟩, ⟨ "Seas", 3, 1, false, "", "", 8⟩, ⟨ "Move", 3, 2, false, "", "", 16⟩, ⟨ "Idle", 3, 3, false, "", "", 24⟩, ⟨ "Reserve", 3, 4, false, "", "", 32⟩, ⟨ "Seats", 3, 5, false, "", "", 40⟩, ⟨ "Moment", 3, 6, false, "", "", 48⟩] : Array Field)[i]? = some f → f.type = 3 ∧ f.offset = i
  | 0, _, h | 1, _, h | 2, _, h | 3, _, h | 4, _, h | 5, _, h | 6, _, h => by cases h; exact ⟨rfl, rfl⟩
  | i + 7, f, h => by simp at h

theorem fs60 : ∀ (i : Nat) (f : Field), (#[⟨ "Cell", 3, 0, false, "", "", 0⟩, ⟨ "Draught", 3, 1, false, "", "", 8⟩, ⟨ "Least", 3, 2, false, "", "", 16⟩, ⟨ "Most", 3, 3, false, "", "", 24⟩, ⟨ "Surf", 3, 4, false, "", "", 32⟩] : Array Field)[i]? = some f → f.type = 3 ∧ f.offset = i
  | 0, _, h | 1, _, h | 2, _, h | 3, _, h | 4, _, h => by cases h; exact ⟨rfl, rfl⟩
  | i + 5, f, h => by simp at h

theorem c62' : Tryz.prog.cellsOf 62 = 2 := by kernel_rfl

theorem dec_shout (hsp : ∀ b, spare b = true) (bs : List Blk) (ss : List Spot) (n : Nat) (cs : List Value) (y : DataW K × List MemPlace) (hd : Dec Tryz.prog W bs ss) (h : DataW.trod enc0 Tryz.prog W base spare held n 80 cs = some y) :
    ∃ bs' ss' b r tk fu tc ts s call p n' c len seats, Dec Tryz.prog W (bs ++ bs') (ss ++ ss') ∧ VsRel (injOf (ss ++ ss')) (encX b r tk fu tc ts s call p n' c len) cs ∧ StnAt (heapOf (bs ++ bs')) s ∧ SlP (heapOf (bs ++ bs')) 1 encI p n' seats := by
  obtain ⟨y0, y1, y2, y3, m, rfl, hl, h0, h1, h2, h3⟩ := Go.Joins.trod_struct4 Tryz.underlying80 h
  rw [c80'] at hl
  obtain ⟨l0, e0, q0⟩ := ints_of Tryz.underlying58 h0 c58' fs58
  obtain ⟨z0, z1, z2, z3, m2, _, hl1, i0, i1, i2, i3⟩ := Go.Joins.trod_struct4 Tryz.underlying64 h1
  obtain ⟨l1, e1, q1⟩ := ints_of Tryz.underlying60 i0 c60' fs60
  obtain ⟨k5, e5, _⟩ := int3 i1
  obtain ⟨k6, e6, _⟩ := int3 i2
  obtain ⟨w0, w1, m3, _, _, j0, j1⟩ := trod_struct2 Tryz.underlying62 i3
  obtain ⟨k7, e7, _⟩ := int3 j0
  obtain ⟨k8, e8, _⟩ := int3 j1
  obtain ⟨b1, s1, st, d1, v1, g1⟩ := dec_stn hsp bs ss _ _ _ hd h2
  obtain ⟨b2, s2, call, p, n', c, len, seats, d2, v2, g2⟩ := dec_alarm hsp _ _ _ _ _ d1 h3
  simp only [c58', c64', c60', c62', c3'] at e0 e1 e5 e6 e7 e8
  simp only [c24', c27'] at v1 v2
  refine ⟨b1 ++ b2, s1 ++ s2, ?_⟩
  rw [← List.append_assoc, ← List.append_assoc]
  match l0, q0, l1, q1 with
  | [a0, a1, a2, a3, a4, a5, a6], _, [r0, r1, r2, r3, r4], _ =>
    refine ⟨⟨a0, a1, a2, a3, a4, a5, a6⟩, ⟨r0, r1, r2, r3, r4⟩, k5, k6, k7, k8, st, call, p, n', c, len, seats, d2, ?_, g1.ext (heapOf_ext _ _), g2⟩
    have v1 := v1.mono (injOf_le _ s2)
    match cs, hl with
    | [x0, x1, x2, x3, x4, x5, x6, x7, x8, x9, x10, x11, x12, x13, x14, x15, x16, x17, x18, x19, x20, x21], _ =>
      simp at e0 e1 e5 e6 e7 e8
      obtain ⟨rfl, rfl, rfl, rfl, rfl, rfl, rfl⟩ := e0
      obtain ⟨rfl, rfl, rfl, rfl, rfl⟩ := e1
      subst e5; subst e6; subst e7; subst e8
      exact (vs_ints [a0, a1, a2, a3, a4, a5, a6]).append ((vs_ints [r0, r1, r2, r3, r4]).append ((vs_ints [k5, k6, k7, k8]).append (v1.append v2)))
end

theorem decoded2 {K : Type} {enc0 : TypeId × Value → K} {W : World} {base : Nat} {v0 v1 : Value} {d0 d1 : DataW K} {p0 p1 : List MemPlace}
    (hL : laidMetH Tryz.prog [("coble/chart.ways", Rows.laid_coble_chart_ways)] W)
    (o0 : Value.okWide Tryz.prog W .any base 53 v0) (o1 : Value.okWide Tryz.prog W .any base 80 v1)
    (h0 : DataW.Trod enc0 Tryz.prog W 0 (fun _ => true) true 53 v0 d0 p0) (h1 : DataW.Trod enc0 Tryz.prog W 0 (fun _ => true) true 80 v1 d1 p1) :
    ∃ (bs : List Blk) (ss : List Spot) (c : Cht) (b : Cls) (r : Rmp) (tk fu tc ts : Int) (s : Stn) (call : Int) (p : Option Addr) (n cs : Nat) (len : Int) (seats : List Int),
      Dec Tryz.prog W (.cells true 0 lvWays :: bs) (⟨0, 0, 0, 0⟩ :: ss) ∧
      VRel (injOf (⟨0, 0, 0, 0⟩ :: ss)) (.agg ⟨encC c⟩) v0 ∧ VRel (injOf (⟨0, 0, 0, 0⟩ :: ss)) (.agg ⟨encX b r tk fu tc ts s call p n cs len⟩) v1 ∧
      ChtAt (heapOf (.cells true 0 lvWays :: bs)) c ∧ StnAt (heapOf (.cells true 0 lvWays :: bs)) s ∧ SlP (heapOf (.cells true 0 lvWays :: bs)) 1 encI p n seats := by
  obtain ⟨c, t, fz, hc, hcs⟩ := ways_laid hL
  have hd : Dec Tryz.prog W [.cells true 0 lvWays] [⟨0, 0, 0, 0⟩] := by
    refine ⟨rfl, by simp [Blk.rw], ?_, ?_⟩
    · intro s hs
      simp at hs; subst hs
      exact (Array.getElem?_eq_some_iff.1 hc).1
    · intro i s x hs hx
      match i, hs, hx with
      | 0, hs, hx =>
        simp at hs hx
        subst hs; subst hx
        refine ⟨c, t, fz, hc, rfl, ?_, fun h => by cases h⟩
        intro i v hv
        rw [← hcs] at hv
        refine ⟨v, by simpa using hv, ?_⟩
        have hm : v ∈ lvWays := by rw [← hcs]; exact List.mem_of_getElem? hv
        have : ∀ v ∈ lvWays, isScalarCell v = true := by decide
        exact VRel.closedCell _ (this v hm)
      | i + 1, hs, hx => simp at hs
  obtain ⟨a0, rfl, _⟩ := okWide_struct Tryz.underlying53 o0
  obtain ⟨a1, rfl, _⟩ := okWide_struct Tryz.underlying80 o1
  obtain ⟨f0, t0⟩ := h0
  obtain ⟨f1, t1⟩ := h1
  obtain ⟨b1, s1, ch, e1, v1, g1⟩ := dec_chart (fun _ => rfl) _ _ _ _ _ hd t0
  obtain ⟨b2, s2, b, r, tk, fu, tc, ts, s, call, p, n, cs, len, seats, e2, v2, g2, g3⟩ := dec_shout (fun _ => rfl) _ _ _ _ _ e1 t1
  refine ⟨b1 ++ b2, s1 ++ s2, ch, b, r, tk, fu, tc, ts, s, call, p, n, cs, len, seats, ?_⟩
  have eb : (Blk.cells true 0 lvWays :: (b1 ++ b2)) = [Blk.cells true 0 lvWays] ++ b1 ++ b2 := by simp
  have es : ((⟨0, 0, 0, 0⟩ : Spot) :: (s1 ++ s2)) = [(⟨0, 0, 0, 0⟩ : Spot)] ++ s1 ++ s2 := by simp
  rw [eb, es]
  exact ⟨e2, .agg (v1.mono (injOf_le _ s2)), .agg v2, g1.ext (heapOf_ext _ _), g2, g3⟩

theorem laidOut2 : laidOutB Tryz.prog = true := by kernel_rfl

theorem called2 {W : World} {c : Cht} {b : Cls} {r : Rmp} {tk fu tc ts : Int} {s : Stn} {call : Int} {p : Option Addr} {n cs : Nat} {len : Int} {seats : List Int} {bs : List Blk} {ss : List Spot} {v0 v1 : Value}
    (hd : Dec Tryz.prog W (.cells true 0 lvWays :: bs) (⟨0, 0, 0, 0⟩ :: ss))
    (r0 : VRel (injOf (⟨0, 0, 0, 0⟩ :: ss)) (.agg ⟨encC c⟩) v0) (r1 : VRel (injOf (⟨0, 0, 0, 0⟩ :: ss)) (.agg ⟨encX b r tk fu tc ts s call p n cs len⟩) v1)
    (h0 : ChtAt (heapOf (.cells true 0 lvWays :: bs)) c) (h1 : StnAt (heapOf (.cells true 0 lvWays :: bs)) s) (h2 : SlP (heapOf (.cells true 0 lvWays :: bs)) 1 encI p n seats) :
    Calls Tryz.prog 5 #[v0, v1] W fun e w' => e = .returned (.bool true) ∧ Below W.heap.size W w' := by
  have hsim : Sim Tryz.prog (injOf (⟨0, 0, 0, 0⟩ :: ss)) (heapOf (.cells true 0 lvWays :: bs)) W := by
    refine sim_of hd.len hd.ro ?_ hd.dom hd.blk
    intro g hg
    rw [oneG] at hg
    obtain rfl : g = 0 := by omega
    exact ⟨_, rfl, rfl, rfl⟩
  refine calls_of mixes agrees (fun _ _ _ _ h => BFacts.sound bBase h) hsim ?_ (.cons r0 (.cons r1 .nil)) ?_
    (s5 (BFacts.mono baseL) h0 h1 h2 ⟨rfl, by simp [heapOf]⟩ (fun n x H R a b c d => base_mul a b c d) (fun H R a b => base_lives a b) fun H' _ => rfl)
  · intro b x hx
    exact hd.ro x (List.mem_of_getElem? hx)
  · intro j v hv
    cases hv
    rfl

theorem door_met2 (os : Os) (args : Array Value) : laidMetH Tryz.prog [("coble/chart.ways", Rows.laid_coble_chart_ways)] ((World.doorLaid Tryz.prog 400 os).forCall (fun _ _ => 0) ⟨#[], args, []⟩).memory :=
  laidMetH_of_parts3 (fuel := 8) (laidMet_of_run' 8 (by kernel_rfl) (by kernel_rfl)) (by kernel_rfl) (by kernel_rfl)

theorem own2 : ownKnob Tryz.prog.godebug = none := by kernel_rfl

theorem lifted2 (os : Os) (started : os.Started) (K : Type) (enc : TypeId × Value → K) :
    ReturnsInHanded {} Tryz.checked os 5 .any (fun w args => (Rows.topCalledSpec.pre enc Tryz.prog Tryz.f5 [] false w args ∧ laidMetH Tryz.prog [("coble/chart.ways", Rows.laid_coble_chart_ways)] w) ∧ sizedMet enc Tryz.prog Tryz.f5 (OpenSpec.ofChange Rows.topCalledSpec) false w args)
      (Rows.topCalledSpec.post enc Tryz.prog Tryz.f5 false true false false) := by
  refine returnsInHanded_of_change_and (C := Tryz.checked) (X := fun w _ => laidMetH Tryz.prog [("coble/chart.ways", Rows.laid_coble_chart_ways)] w) (fun _ _ _ hh h => h.of_heap hh) own2 started (by kernel_rfl) Tryz.func5
    (ChangeSpec.witness_shaped (enc := enc) (C := Tryz.checked) (os := os) (X := fun w _ => laidMetH Tryz.prog [("coble/chart.ways", Rows.laid_coble_chart_ways)] w) false (World.doorLaid Tryz.prog 400 os)
      #[.agg #[.int .i64 0, .int .i64 0, .slice none 0 0, .slice none 0 0, .slice none 0 0], .agg #[.int .i64 0, .int .i64 0, .int .i64 0, .int .i64 0, .int .i64 0, .int .i64 0, .int .i64 0, .int .i64 0, .int .i64 0, .int .i64 0, .int .i64 0, .int .i64 0, .int .i64 0, .int .i64 0, .int .i64 0, .int .i64 0, .slice none 0 0, .int .i64 0, .int .i64 0, .int .i64 0, .slice none 0 0, .int .i64 0]] 8 rfl (World.shaped_of_RefB (by kernel_rfl) (by kernel_rfl)) (by kernel_rfl) (by kernel_rfl) (by kernel_rfl) (door_met2 os _)) ?_
  intro W base args ds gs before hval0 hW _ _ hL _
  have hval : ∀ (j : Nat) t v, Tryz.f5.params[j]? = some t → args[j]? = some v → Value.okWide Tryz.prog W .any base t v := hval0
  have hW' := hW
  obtain ⟨q, pv, hA0, hV, rfl, hfz, hnd⟩ := hW
  have hA : DataW.TrodAll enc Tryz.prog W 0 (fun _ => true) true Tryz.f5.params.toList args.toList ds q := hA0
  rw [Tryz.params5] at hA hval
  obtain ⟨v0, v1, d0, d1, p0, p1, rfl, rfl, rfl, h0, h1⟩ := trodAll_two hA
  obtain ⟨rfl, rfl⟩ := trodVars_none hV
  obtain ⟨bs, ss, c, b, r, tk, fu, tc, ts, s, call, p, n, cs, len, seats, hd, r0, r1, g0, g1, g2⟩ := decoded2 hL (hval 0 53 v0 rfl rfl) (hval 1 80 v1 rfl rfl) h0 h1
  refine (called2 hd r0 r1 g0 g1 g2).mono fun e W' ⟨he, hb⟩ => ?_
  subst he
  have hlt : ∀ x ∈ p0 ++ p1, x.block < W.heap.size := fun x hx => hW'.lt x (by simpa using hx)
  have t0 := Below.trod laidOut2 (by kernel_rfl) (of_decide_eq_true (by kernel_rfl)) h0 hb (fun x hx => hlt x (by simp [hx]))
  have t1 := Below.trod laidOut2 (by kernel_rfl) (of_decide_eq_true (by kernel_rfl)) h1 hb (fun x hx => hlt x (by simp [hx]))
  exact ⟨_, rfl, [d0, d1], [], _, [], _, [], hW', trodAll_mk1 (shut_bool Tryz.underlying4 _), trodAll_mk2 t0 t1, hV, hb.frame _, fun h => by cases h⟩
end LV
