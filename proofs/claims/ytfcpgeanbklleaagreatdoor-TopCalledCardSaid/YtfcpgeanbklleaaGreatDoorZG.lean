/- TopCalled is PROVED: for every chart and shout that a call can be given, TopCalled returns true and leaves its arguments as they were; condition: the package variable of ways starts as the text lays it (the card ties it). -/
import Derived.Test.YtfcpgeanbklleaaGreatDoorZF
import Derived.Test.YtfcpgeanbklleaaGreatDoorTie
import Derived.SevenTiedAt
set_option linter.unusedSectionVars false
set_option linter.unusedSimpArgs false
set_option linter.unusedVariables false
namespace Go.Proofs.YtfcpgeanbklleaaGreatDoor
open Go

theorem topCalled_row : Rows.TopCalledSaid :=
  OpenClaim.holds_of_wide 5 Tryz.f5 rfl rfl rfl rfl rfl rfl rfl ⟨rfl, rfl, rfl, rfl, rfl⟩ rfl rfl rfl rfl rfl (by kernel_rfl) Tryz.func5 (by kernel_rfl)
    (of_decide_eq_true (by kernel_rfl)) (by unfold Func.isWrapper; first | (rw [if_pos (by decide +kernel)]; kernel_rfl) | (rw [if_neg (by decide +kernel)]; exact ⟨rfl, rfl⟩))
    (fun os started H enc _ => LV.lifted2 os started H enc)

theorem topCalled_holds : Rows.TopCalledCardSaid :=
  Claim7.holds_tied_plain_at .later [] [.data] true (true, "e028f98e9c5603d9fe0051ea6930f1edf012fa3c3d610464b21551be2646b912") false
    topCalled_row (fun _ h => by cases h) (by kernel_rfl) (fun _ h => by cases h) topCalled_row_tie rfl ⟨rfl, rfl⟩ (by kernel_rfl) rfl
    (fun f fn hf hfn => by
      obtain rfl : f = 5 := Option.some.inj ((show Tryz.prog.funcNamed "coble/cobletop.TopCalled" = some 5 by kernel_rfl).symm.trans hf) |>.symm
      obtain rfl : fn = Tryz.f5 := (Option.some.inj (Tryz.func5.symm.trans hfn)).symm
      exact ⟨by kernel_rfl, fun j t ht => by
        rw [Tryz.params5] at ht
        have hm : t ∈ [53, 80] := by simpa using Array.mem_of_getElem? ht
        have hall : ([53, 80].all fun u => !Tryz.prog.wantsStandIn u) = true := by kernel_rfl
        exact (show Tryz.prog.wantsStandIn t = false by simpa using List.all_eq_true.1 hall t hm)⟩)
    (by kernel_rfl)
#print axioms topCalled_holds
end Go.Proofs.YtfcpgeanbklleaaGreatDoor
