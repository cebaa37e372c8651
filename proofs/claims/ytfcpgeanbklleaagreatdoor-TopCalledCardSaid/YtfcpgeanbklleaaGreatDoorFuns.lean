/- Functions and rounds: the abstract call is sound. -/
import Derived.Test.YtfcpgeanbklleaaGreatDoorCodeS
set_option linter.unusedSectionVars false
set_option linter.unusedSimpArgs false
set_option linter.unusedVariables false
namespace Ab
open Go

section
variable {P : Program} {n : Nat} {j : Inj} {H : Heap} {w : World} {T : List Value} {C : Array Value} {b : FB} {k : List Item} {cs : List Frame}

/-! ### The end of a function -/

theorem run_take {r : Nat} (h : w.heap[r]? = some (.deferred (some []))) : (Instr.takeDeferred r).run P w = .ok [] { w with heap := w.heap.setIfInBounds r (.deferred none) } := by
  simp [Instr.takeDeferred, getObj, setObj, Sem.run_bind, Sem.run, h, Result.andThen]

theorem leave_marks {n0 : Nat} {j0 : Inj} {H0 : Heap} {w0 : World} (cs : List Frame) (hn0 : w0.heap.size ≤ n0) : ∀ {rs : List Nat} {ds : List Deferred} {fr : Frame} {w : World}, fr.mode = .returning → fr.defers = ds → DefOK n0 j w ds rs → Sim P j H w → Step j0 H0 w0 j H w →
    ∃ w', Sim P j H w' ∧ Step j0 H0 w0 j H w' ∧ Steps P (lone fr cs w) (lone { fr with defers := [] } cs w')
  | [], ds, fr, w, hm, hd, h, hs, hst => by
    have : fr.defers = [] := by rw [hd, h.eq]; rfl
    refine ⟨w, hs, hst, ?_⟩
    rw [show ({ fr with defers := [] } : Frame) = fr by cases fr; simp_all]
    exact Steps.refl _ _
  | r :: rs, ds, fr, w, hm, hd, h, hs, hst => by
    have hdl : fr.defers = { target := .collected r, args := #[] } :: rs.map fun r => { target := .collected r, args := #[] } := by rw [hd, h.eq]; rfl
    obtain ⟨h1, h2, h3⟩ := h.ok r (by simp)
    have hk := run_take (P := P) h2
    obtain ⟨w1, hw1⟩ : ∃ w1 : World, w1 = { w with heap := w.heap.setIfInBounds r (.deferred none) } := ⟨_, rfl⟩
    rw [← hw1] at hk
    have hsame : ∀ r', r' ≠ r → w1.heap[r']? = w.heap[r']? := by intro r' hr'; rw [hw1]; simp [Ne.symm hr']
    have hsz : w1.heap.size = w.heap.size := by rw [hw1]; simp
    have hs1 : Sim P j H w1 := hs.off h3 (by omega) fun r' _ hr' => hsame r' hr'
    have hst1 : Step j0 H0 w0 j H w1 := by
      refine ⟨hst.sub, hst.new, hst.evo, hst.img, hst.mono, ⟨by rw [hsz]; exact hst.keep.size, by rw [hw1]; exact hst.keep.tape, by rw [hw1]; exact hst.keep.os, by rw [hw1]; exact hst.keep.output, ?_⟩⟩
      intro r' hr' hn
      rw [hsame r' (by omega)]
      exact hst.keep.same r' hr' hn
    have hdef : DefOK n0 j w1 (rs.map fun r => { target := .collected r, args := #[] }) rs := by
      refine ⟨rfl, (List.nodup_cons.1 h.nodup).2, fun r' hr' => ?_⟩
      obtain ⟨g1, g2, g3⟩ := h.ok r' (by simp [hr'])
      refine ⟨g1, ?_, g3⟩
      rw [hsame r' (fun e => (List.nodup_cons.1 h.nodup).1 (e ▸ hr'))]
      exact g2
    obtain ⟨w', k1, k2, k3⟩ := leave_marks cs hn0 (fr := { fr with defers := rs.map fun r => { target := .collected r, args := #[] } }) hm rfl hdef hs1 hst1
    refine ⟨w', k1, k2, Steps.head (step_collected (by rw [hm]; simp) hdl rfl hk) ?_⟩
    exact k3

/-- One result. -/
def resOne (C : Array Value) : ResultVar → Sem Value
  | .tmp t => pure (C.getD t undef)
  | .cell a t => do loadVar t (← asAddr (C.getD a undef))

theorem resAll_sound (hs : Sim P j H w) (hT : VsRel j T C.toList) : ∀ {rv : List ResultVar} {rs : List ARes} {vs : List Value}, rv.mapM (cRes P) = some rs → resAll H T rs = some vs →
    ∃ vs' : List Value, (rv.mapM (resOne C)).run P w = .ok vs' w ∧ VsRel j vs vs'
  | [], rs, vs, h1, h2 => by
    simp only [List.mapM_nil, Option.pure_def, Option.some.injEq] at h1
    subst h1
    simp only [resAll, Option.some.injEq] at h2
    subst h2
    exact ⟨[], rfl, .nil⟩
  | x :: rv, rs, vs, h1, h2 => by
    simp only [List.mapM_cons, Option.bind_eq_bind, Option.bind_eq_some_iff, Option.pure_def, Option.some.injEq] at h1
    obtain ⟨a, ha, as, has, rfl⟩ := h1
    simp only [resAll] at h2
    split at h2
    · rename_i v vs0 hv hvs
      simp only [Option.some.injEq] at h2
      subst h2
      obtain ⟨vs', k1, k2⟩ := resAll_sound hs hT has hvs
      have key : ∃ v', (resOne C x).run P w = .ok v' w ∧ VRel j v v' := by
        cases x with
        | tmp t =>
          simp only [cRes, Option.some.injEq] at ha
          subst ha
          simp only [resA, Option.some.injEq] at hv
          subst hv
          refine ⟨C.getD t undef, rfl, ?_⟩
          rw [getD_toList]; exact hT.getD t
        | cell a t =>
          simp only [cRes, Option.map_eq_some_iff] at ha
          obtain ⟨g, hg, rfl⟩ := ha
          simp only [resA] at hv
          have hvr : VRel j (T.getD a undef) (C.getD a undef) := by rw [getD_toList]; exact hT.getD a
          obtain ⟨v', m1, m2⟩ := load_sound hs hg hv hvr
          refine ⟨v', ?_, m2⟩
          rw [← m1]
          unfold loadA at hv
          split at hv
          · rename_i he
            rw [he] at hvr
            generalize hz : C.getD a undef = z at hvr
            cases hvr
            simp [resOne, hz, Instr.loadAt, Instr.sureAddr, asAddr]
          · simp at hv
      obtain ⟨v', m1, m2⟩ := key
      refine ⟨v' :: vs', ?_, .cons m2 k2⟩
      simp only [List.mapM_cons, Sem.run_bind]
      rw [m1]
      simp only [Result.andThen, k1]
      rfl
    · simp at h2

theorem results_sound (hs : Sim P j H w) (hT : VsRel j T C.toList) {fn : Func} {rs : List ARes} {vs : List Value} (h1 : fn.results.toList.mapM (cRes P) = some rs) (h2 : resAll H T rs = some vs) :
    ∃ v', (results fn C).run P w = .ok v' w ∧ VRel j (resV vs) v' := by
  obtain ⟨vs', k1, k2⟩ := resAll_sound hs hT h1 h2
  refine ⟨if h : vs'.toArray.size = 1 then vs'.toArray[0] else .tuple vs'.toArray, ?_, ?_⟩
  · have h3 : results fn C = (fn.results.mapM (resOne C) >>= fun vs => pure (if h : vs.size = 1 then vs[0] else .tuple vs)) := rfl
    rw [h3, Array.mapM_eq_mapM_toList]
    simp only [Sem.run_bind, Sem.run_map, k1, Result.andThen]
    rfl
  · cases k2 with
    | nil => exact .tuple .nil
    | cons hv t =>
      cases t with
      | nil => exact hv
      | cons hv2 t => simp [resV]; exact .tuple (.cons hv (.cons hv2 t))

end
end Ab
