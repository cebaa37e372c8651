/- TopAnswered PROVED: the row of the statement. -/
import Derived.Test.YtfcpgeanbklleaaGreatDoorZA
import Derived.Test.YtfcpgeanbklleaaGreatDoorCards
import Derived.Stop.Joined
import Derived.RowKit2
import Derived.Carry
set_option linter.unusedSectionVars false
set_option linter.unusedSimpArgs false
set_option linter.unusedVariables false
namespace LV
open Go Ab Go.Proofs Go.Proofs.YtfcpgeanbklleaaGreatDoor Go.ChangeShapes Go.WideShapes Go.RowKit
set_option maxRecDepth 100000

theorem laidOut : laidOutB Tryz.prog = true := by kernel_rfl

/-- THE CALL: true, and nothing that was there has turned. -/
theorem called {W : World} {s : Stn} {call len : Int} {p : Option Addr} {n c : Nat} {seats : List Int} {pp : Option Addr} {np cp : Nat} {pages : List Pg} {tick every : Int} {bs : List Blk} {ss : List Spot} {v0 v1 v2 : Value}
    (hd : Dec Tryz.prog W (.cells true 0 lvWays :: bs) (⟨0, 0, 0, 0⟩ :: ss))
    (r0 : VRel (injOf (⟨0, 0, 0, 0⟩ :: ss)) (.agg ⟨encSt s⟩) v0) (r1 : VRel (injOf (⟨0, 0, 0, 0⟩ :: ss)) (.agg ⟨[.int .i64 call, .slice p n c, .int .i64 len]⟩) v1) (r2 : VRel (injOf (⟨0, 0, 0, 0⟩ :: ss)) (.agg ⟨[.slice pp np cp, .int .i64 tick, .int .i64 every]⟩) v2)
    (h0 : StnAt (heapOf (.cells true 0 lvWays :: bs)) s) (h1 : SlP (heapOf (.cells true 0 lvWays :: bs)) 1 encI p n seats) (h2 : SlP (heapOf (.cells true 0 lvWays :: bs)) 3 encP pp np pages) :
    Calls Tryz.prog 3 #[v0, v1, v2] W fun e w' => e = .returned (.bool true) ∧ Below W.heap.size W w' := by
  have hsim : Sim Tryz.prog (injOf (⟨0, 0, 0, 0⟩ :: ss)) (heapOf (.cells true 0 lvWays :: bs)) W := by
    refine sim_of hd.len hd.ro ?_ hd.dom hd.blk
    intro g hg
    rw [oneG] at hg
    obtain rfl : g = 0 := by omega
    exact ⟨_, rfl, rfl, rfl⟩
  refine calls_of mixes agrees (fun _ _ _ _ h => BFacts.sound bLives h) hsim ?_ (.cons r0 (.cons r1 (.cons r2 .nil))) ?_
    (s3 (BFacts.mono [lvLives]) (wy := lvWays) h0 h1 h2 ⟨rfl, by simp [heapOf]⟩ ?_ fun H' _ => rfl)
  · intro b x hx
    exact hd.ro x (List.mem_of_getElem? hx)
  · intro j v hv
    cases hv
    rfl
  · intro H R hW hR
    refine .base ⟨lvLives, by simp, rfl, rfl, ?_, hR⟩
    intro b e cs hm
    simp [lvLives] at hm
    obtain ⟨rfl, rfl, rfl⟩ := hm
    exact ⟨true, hW.get⟩

theorem door_met (os : Os) (args : Array Value) : laidMetH Tryz.prog [("coble/chart.ways", Rows.laid_coble_chart_ways)] ((World.doorLaid Tryz.prog 400 os).forCall (fun _ _ => 0) ⟨#[], args, []⟩).memory :=
  laidMetH_of_parts3 (fuel := 8) (laidMet_of_run' 8 (by kernel_rfl) (by kernel_rfl)) (by kernel_rfl) (by kernel_rfl)

theorem own : ownKnob Tryz.prog.godebug = none := by kernel_rfl

theorem lifted (os : Os) (started : os.Started) (K : Type) (enc : TypeId × Value → K) :
    ReturnsInHanded {} Tryz.checked os 3 .any (fun w args => (Rows.topAnsweredSpec.pre enc Tryz.prog Tryz.f3 [] false w args ∧ laidMetH Tryz.prog [("coble/chart.ways", Rows.laid_coble_chart_ways)] w) ∧ sizedMet enc Tryz.prog Tryz.f3 (OpenSpec.ofChange Rows.topAnsweredSpec) false w args)
      (Rows.topAnsweredSpec.post enc Tryz.prog Tryz.f3 false true false false) := by
  refine returnsInHanded_of_change_and (C := Tryz.checked) (X := fun w _ => laidMetH Tryz.prog [("coble/chart.ways", Rows.laid_coble_chart_ways)] w) (fun _ _ _ hh h => h.of_heap hh) own started (by kernel_rfl) Tryz.func3
    (ChangeSpec.witness_shaped (enc := enc) (C := Tryz.checked) (os := os) (X := fun w _ => laidMetH Tryz.prog [("coble/chart.ways", Rows.laid_coble_chart_ways)] w) false (World.doorLaid Tryz.prog 400 os)
      #[.agg #[.slice none 0 0, .int .i64 0, .int .i64 0], .agg #[.int .i64 0, .slice none 0 0, .int .i64 0], .agg #[.slice none 0 0, .int .i64 0, .int .i64 0]] 8 rfl (World.shaped_of_RefB (by kernel_rfl) (by kernel_rfl)) (by kernel_rfl) (by kernel_rfl) (by kernel_rfl) (door_met os _)) ?_
  intro W base args ds gs before hval0 hW _ _ hL _
  have hval : ∀ (j : Nat) t v, Tryz.f3.params[j]? = some t → args[j]? = some v → Value.okWide Tryz.prog W .any base t v := hval0
  have hW' := hW
  obtain ⟨q, pv, hA0, hV, rfl, hfz, hnd⟩ := hW
  have hA : DataW.TrodAll enc Tryz.prog W 0 (fun _ => true) true Tryz.f3.params.toList args.toList ds q := hA0
  rw [Tryz.params3] at hA hval
  obtain ⟨v0, v1, v2, d0, d1, d2, p0, p1, p2, rfl, rfl, rfl, h0, h1, h2⟩ := trodAll_three hA
  obtain ⟨rfl, rfl⟩ := trodVars_none hV
  obtain ⟨bs, ss, s, call, len, p, n, c, seats, pp, np, cp, pages, tick, every, hd, r0, r1, r2, g0, g1, g2⟩ := decoded hL (hval 0 24 v0 rfl rfl) (hval 1 27 v1 rfl rfl) (hval 2 30 v2 rfl rfl) h0 h1 h2
  refine (called hd r0 r1 r2 g0 g1 g2).mono fun e W' ⟨he, hb⟩ => ?_
  subst he
  have hlt : ∀ x ∈ p0 ++ p1 ++ p2, x.block < W.heap.size := fun x hx => hW'.lt x (by simpa using hx)
  have t0 := Below.trod laidOut (by kernel_rfl) (of_decide_eq_true (by kernel_rfl)) h0 hb (fun x hx => hlt x (by simp [hx]))
  have t1 := Below.trod laidOut (by kernel_rfl) (of_decide_eq_true (by kernel_rfl)) h1 hb (fun x hx => hlt x (by simp [hx]))
  have t2 := Below.trod laidOut (by kernel_rfl) (of_decide_eq_true (by kernel_rfl)) h2 hb (fun x hx => hlt x (by simp [hx]))
  exact ⟨_, rfl, [d0, d1, d2], [], _, [], _, [], hW', trodAll_mk1 (shut_bool Tryz.underlying4 _), trodAll_mk3 t0 t1 t2, hV, hb.frame _, fun h => by cases h⟩
end LV
