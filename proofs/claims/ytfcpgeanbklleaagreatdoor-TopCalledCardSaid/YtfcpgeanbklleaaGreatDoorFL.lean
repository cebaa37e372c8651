/- Part of the proof of this claim: text FL. -/
import Derived.Test.YtfcpgeanbklleaaGreatDoorFA1
import Derived.Test.YtfcpgeanbklleaaGreatDoorFA2
set_option linter.unusedSectionVars false
set_option linter.unusedSimpArgs false
set_option linter.unusedVariables false
namespace LV
open Go Ab Go.Proofs
set_option maxRecDepth 100000
theorem eAll : ∀ p ∈ lvApartL, okA p = true := by
  have h : lvApartL.all okA = true := by
    simp only [lvApartL, List.all_append, eR0, eR1, eR2, eR3, eR4, eR5, eR6, eR7, eR8, eR9, eR10, eR11, Bool.and_self]
  exact List.all_eq_true.1 h
theorem oAll : ∀ p ∈ lvApartL, (apF p).ok 1 16 = true := List.all_eq_true.1 (show lvApartL.all (fun p => (apF p).ok 1 16) = true by kernel_rfl)
theorem bAll : ∀ φ ∈ lvAll, φ.ok Tryz.prog.globals.size 16 = true ∧ Conc Tryz.prog (.fn φ.f) φ.args (φ.heap 16) fun v _ => v = φ.v := by
  intro φ h
  rcases List.mem_cons.1 h with h | h
  · subst h
    exact ⟨by rw [oneG]; kernel_rfl, cCheck⟩
  · obtain ⟨p, hp, rfl⟩ := List.mem_map.1 h
    exact ⟨by rw [oneG]; exact oAll p hp, cA (eAll p hp) (oAll p hp)⟩
theorem eLives : isV (((runN AP (orcOf lvAll) 40).fn lvLives.f).run (lvLives.args.map of1) (lvLives.fh 1)) (of2 lvLives.v) = true := by decide +kernel
theorem cLives : Conc Tryz.prog (.fn lvLives.f) lvLives.args (lvLives.heap 1) fun v _ => v = lvLives.v :=
  fact_of mixes agrees (BFacts.mono lvAll) (fun _ _ _ _ h => BFacts.sound bAll h) (orcOf_ok lvAll) (ng := 1) (by kernel_rfl) (by decide) eLives
theorem bLives : ∀ φ ∈ [lvLives], φ.ok Tryz.prog.globals.size 1 = true ∧ Conc Tryz.prog (.fn φ.f) φ.args (φ.heap 1) fun v _ => v = φ.v := by
  intro φ h
  simp at h
  subst h
  exact ⟨by rw [oneG]; kernel_rfl, cLives⟩
end LV
