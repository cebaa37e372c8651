/-
  NARROWER THAN 'FOR EVERY INPUT', by the rows' own cells (each row's printed sentence says how): TopAnswered: laid · TopEverywhere: laid · TopCalled: laid · TopFresh: laid · TopPaid: laid.
  DERIVED. THE GIVEN ROWS OF THIS SEAT. 5 by the template 'for every input the law returns true; each argument reads behind the call as it read before'; 0 by the template 'total and deterministic' (their statements: YtfcpgeanbklleaaGreatDoorTotals.lean).
  GIVEN WITH THE SEED: the statements are not yours to turn. If you find one false, say at which input.
  Laid BY PROGRAM, IN A SANDBOX (cutbox-rows.mjs): the forced cells as the released guide's own fill.sh prints them over the translation e6c2bdeabec6b725… (all of the seat's roots in one cut). By AI agents, Wed Nov 11 2026. No macro, syntax, notation, axiom, sorry.
-/
import Derived.Test.YtfcpgeanbklleaaGreatDoorChecked
import GoSem.Claim
import GoSem.ClaimJoined
import GoSem.ClaimMapViews
import Derived.JoinedTies
import Derived.KernelRfl
namespace Go.Proofs.YtfcpgeanbklleaaGreatDoor
/- THE CELL 'sum', in the pinned program and in every row, IS THE sha256 OF THE DUMP (.gsa) THAT YtfcpgeanbklleaaGreatDoorProg.lean LOADS. Nothing in Lean hashes anything: it is a label: what it is worth is what the hold of that sum in a sandbox is worth. -/
noncomputable def Tryz.pinned : Pinned := { name := "ytfcpgeanbklleaagreatdoor", sum := "e6c2bdeabec6b72599e1c258a4500fed9b537daeaae4aef6b39292734b03d92c", checked := Tryz.checked }
namespace Rows
def none {H : Type} : Left H := { results := [], args := [] }

/- WHAT THE LISTED PACKAGE-LEVEL VARIABLES READ AS WHEN THE CALL BEGINS. Each datum BY PROGRAM (the guide's laid-datum.mjs) off the statement by which the dump's own 'gosem.cut.vars' lays the variable. In a bare row this is a premise. The card (YtfcpgeanbklleaaGreatDoorCards.lean) ties it to the program's text. -/
def laid_coble_chart_ways {H : Type} : DataW H := .agg [.agg [.lit (.int .i64 1), .lit (.int .i64 1), .lit (.int .i64 0)], .agg [.lit (.int .i64 0), .lit (.int .i64 1), .lit (.int .i64 1)], .agg [.lit (.int .i64 (-1)), .lit (.int .i64 0), .lit (.int .i64 1)], .agg [.lit (.int .i64 (-1)), .lit (.int .i64 (-1)), .lit (.int .i64 0)], .agg [.lit (.int .i64 (-1)), .lit (.int .i64 0), .lit (.int .i64 (-1))], .agg [.lit (.int .i64 0), .lit (.int .i64 1), .lit (.int .i64 (-1))]]

/-- 'cobletop.TopAnswered': WHATEVER THE INPUT: true; the input reads as it did. -/
def topAnsweredSpec : ChangeSpec := { name := "topAnswered", fn := fun _ => fun
  | [d1, d2, d3] => { results := [.lit (.bool true)], args := [d1, d2, d3] }
  | _ => none }
def topAnsweredRow : OpenClaim := { program := "ytfcpgeanbklleaagreatdoor", sum := "e6c2bdeabec6b72599e1c258a4500fed9b537daeaae4aef6b39292734b03d92c", func := "coble/cobletop.TopAnswered", spec := "topAnswered", unfollowed := true, recurses := true, named := ["coble/chart.ways"], plainKeys := false, apart := false, laid := [("coble/chart.ways", laid_coble_chart_ways)] }
def TopAnsweredSaid : Prop := topAnsweredRow.holds Tryz.pinned (OpenSpec.ofChange topAnsweredSpec)

/-- ITS FALSE NEIGHBOUR: 'it returns false'. Refute it at one input. -/
def topAnsweredWrong : ChangeSpec := { name := "topAnswered", fn := fun _ => fun
  | [d1, d2, d3] => { results := [.lit (.bool false)], args := [d1, d2, d3] }
  | _ => none }
def TopAnsweredWrongFalsely : Prop := topAnsweredRow.holds Tryz.pinned (OpenSpec.ofChange topAnsweredWrong)

/-- 'cobletop.TopEverywhere': WHATEVER THE INPUT: true; the input reads as it did. -/
def topEverywhereSpec : ChangeSpec := { name := "topEverywhere", fn := fun _ => fun
  | [d1, d2, d3] => { results := [.lit (.bool true)], args := [d1, d2, d3] }
  | _ => none }
def topEverywhereRow : OpenClaim := { program := "ytfcpgeanbklleaagreatdoor", sum := "e6c2bdeabec6b72599e1c258a4500fed9b537daeaae4aef6b39292734b03d92c", func := "coble/cobletop.TopEverywhere", spec := "topEverywhere", unfollowed := true, recurses := true, named := ["coble/chart.ways"], plainKeys := false, apart := false, laid := [("coble/chart.ways", laid_coble_chart_ways)] }
def TopEverywhereSaid : Prop := topEverywhereRow.holds Tryz.pinned (OpenSpec.ofChange topEverywhereSpec)

/-- ITS FALSE NEIGHBOUR: 'it returns false'. Refute it at one input. -/
def topEverywhereWrong : ChangeSpec := { name := "topEverywhere", fn := fun _ => fun
  | [d1, d2, d3] => { results := [.lit (.bool false)], args := [d1, d2, d3] }
  | _ => none }
def TopEverywhereWrongFalsely : Prop := topEverywhereRow.holds Tryz.pinned (OpenSpec.ofChange topEverywhereWrong)

/-- 'cobletop.TopCalled': WHATEVER THE INPUT: true; the input reads as it did. -/
def topCalledSpec : ChangeSpec := { name := "topCalled", fn := fun _ => fun
  | [d1, d2] => { results := [.lit (.bool true)], args := [d1, d2] }
  | _ => none }
def topCalledRow : OpenClaim := { program := "ytfcpgeanbklleaagreatdoor", sum := "e6c2bdeabec6b72599e1c258a4500fed9b537daeaae4aef6b39292734b03d92c", func := "coble/cobletop.TopCalled", spec := "topCalled", unfollowed := true, recurses := true, named := ["coble/chart.ways"], plainKeys := false, apart := false, laid := [("coble/chart.ways", laid_coble_chart_ways)] }
def TopCalledSaid : Prop := topCalledRow.holds Tryz.pinned (OpenSpec.ofChange topCalledSpec)

/-- ITS FALSE NEIGHBOUR: 'it returns false'. Refute it at one input. -/
def topCalledWrong : ChangeSpec := { name := "topCalled", fn := fun _ => fun
  | [d1, d2] => { results := [.lit (.bool false)], args := [d1, d2] }
  | _ => none }
def TopCalledWrongFalsely : Prop := topCalledRow.holds Tryz.pinned (OpenSpec.ofChange topCalledWrong)

/-- 'cobletop.TopFresh': WHATEVER THE INPUT: true; the input reads as it did. -/
def topFreshSpec : ChangeSpec := { name := "topFresh", fn := fun _ => fun
  | [d1, d2] => { results := [.lit (.bool true)], args := [d1, d2] }
  | _ => none }
def topFreshRow : OpenClaim := { program := "ytfcpgeanbklleaagreatdoor", sum := "e6c2bdeabec6b72599e1c258a4500fed9b537daeaae4aef6b39292734b03d92c", func := "coble/cobletop.TopFresh", spec := "topFresh", unfollowed := true, recurses := true, named := ["coble/chart.ways"], plainKeys := false, apart := false, laid := [("coble/chart.ways", laid_coble_chart_ways)] }
def TopFreshSaid : Prop := topFreshRow.holds Tryz.pinned (OpenSpec.ofChange topFreshSpec)

/-- ITS FALSE NEIGHBOUR: 'it returns false'. Refute it at one input. -/
def topFreshWrong : ChangeSpec := { name := "topFresh", fn := fun _ => fun
  | [d1, d2] => { results := [.lit (.bool false)], args := [d1, d2] }
  | _ => none }
def TopFreshWrongFalsely : Prop := topFreshRow.holds Tryz.pinned (OpenSpec.ofChange topFreshWrong)

/-- 'cobletop.TopPaid': WHATEVER THE INPUT: true; the input reads as it did. -/
def topPaidSpec : ChangeSpec := { name := "topPaid", fn := fun _ => fun
  | [d1, d2, d3] => { results := [.lit (.bool true)], args := [d1, d2, d3] }
  | _ => none }
def topPaidRow : OpenClaim := { program := "ytfcpgeanbklleaagreatdoor", sum := "e6c2bdeabec6b72599e1c258a4500fed9b537daeaae4aef6b39292734b03d92c", func := "coble/cobletop.TopPaid", spec := "topPaid", unfollowed := true, recurses := true, named := ["coble/chart.ways"], plainKeys := false, apart := false, laid := [("coble/chart.ways", laid_coble_chart_ways)] }
def TopPaidSaid : Prop := topPaidRow.holds Tryz.pinned (OpenSpec.ofChange topPaidSpec)

/-- ITS FALSE NEIGHBOUR: 'it returns false'. Refute it at one input. -/
def topPaidWrong : ChangeSpec := { name := "topPaid", fn := fun _ => fun
  | [d1, d2, d3] => { results := [.lit (.bool false)], args := [d1, d2, d3] }
  | _ => none }
def TopPaidWrongFalsely : Prop := topPaidRow.holds Tryz.pinned (OpenSpec.ofChange topPaidWrong)

/- THE SECOND FORM. 'bulk': how many values and letters a reading holds, each counted each time it is reached (what is shared counts as often as it is met; a slice's spare places count too). A statement '..UptoSaid' is the law's where the arguments, and the package variables that the reading takes, are together of bulk at most 1048576: NARROWER than '..Said'. Prove '..Said' where nothing that the law and all that it calls make is longer than what came in: it says more and counts as full. Else prove '..UptoSaid'. A law counts once. -/
mutual
def uptoBulk {H : Type} : DataW H → Nat
  | .lit (.string bytes) => bytes.length + 1
  | .lit _ => 1
  | .nil => 1
  | .ptr d => uptoBulk d + 1
  | .slice elems spare => uptoBulkAll elems + uptoBulkAll spare + 1
  | .agg parts => uptoBulkAll parts + 1
  | .iface _ d => uptoBulk d + 1
  | .map entries => uptoBulkEntries entries + 1
  | .held _ => 1
def uptoBulkAll {H : Type} : List (DataW H) → Nat
  | [] => 0
  | d :: r => uptoBulk d + uptoBulkAll r
def uptoBulkEntries {H : Type} : List (Lit × DataW H) → Nat
  | [] => 0
  | x :: r => uptoBulkEntry x + uptoBulkEntries r
def uptoBulkEntry {H : Type} : Lit × DataW H → Nat
  | (.string bytes, d) => bytes.length + uptoBulk d + 1
  | (_, d) => uptoBulk d + 1
 end
def uptoSmall : (H : Type) → List (DataW H) → Bool := fun _ ds => decide (uptoBulkAll ds ≤ 1048576)
def OpenSpec.upto (s : _root_.Go.ChangeSpec) : _root_.Go.OpenSpec := { _root_.Go.OpenSpec.ofChange s with cond := some uptoSmall }

/-- 'cobletop.TopAnswered', WHERE WHAT IT READS IS OF BULK AT MOST 1048576: true; the input reads as it did. -/
def topAnsweredUptoRow : OpenClaim := { program := "ytfcpgeanbklleaagreatdoor", sum := "e6c2bdeabec6b72599e1c258a4500fed9b537daeaae4aef6b39292734b03d92c", func := "coble/cobletop.TopAnswered", spec := "topAnswered", unfollowed := true, recurses := true, named := ["coble/chart.ways"], plainKeys := false, apart := false, laid := [("coble/chart.ways", laid_coble_chart_ways)], narrowed := true }
def TopAnsweredUptoSaid : Prop := topAnsweredUptoRow.holds Tryz.pinned (OpenSpec.upto topAnsweredSpec)

/-- 'cobletop.TopEverywhere', WHERE WHAT IT READS IS OF BULK AT MOST 1048576: true; the input reads as it did. -/
def topEverywhereUptoRow : OpenClaim := { program := "ytfcpgeanbklleaagreatdoor", sum := "e6c2bdeabec6b72599e1c258a4500fed9b537daeaae4aef6b39292734b03d92c", func := "coble/cobletop.TopEverywhere", spec := "topEverywhere", unfollowed := true, recurses := true, named := ["coble/chart.ways"], plainKeys := false, apart := false, laid := [("coble/chart.ways", laid_coble_chart_ways)], narrowed := true }
def TopEverywhereUptoSaid : Prop := topEverywhereUptoRow.holds Tryz.pinned (OpenSpec.upto topEverywhereSpec)

/-- 'cobletop.TopCalled', WHERE WHAT IT READS IS OF BULK AT MOST 1048576: true; the input reads as it did. -/
def topCalledUptoRow : OpenClaim := { program := "ytfcpgeanbklleaagreatdoor", sum := "e6c2bdeabec6b72599e1c258a4500fed9b537daeaae4aef6b39292734b03d92c", func := "coble/cobletop.TopCalled", spec := "topCalled", unfollowed := true, recurses := true, named := ["coble/chart.ways"], plainKeys := false, apart := false, laid := [("coble/chart.ways", laid_coble_chart_ways)], narrowed := true }
def TopCalledUptoSaid : Prop := topCalledUptoRow.holds Tryz.pinned (OpenSpec.upto topCalledSpec)

/-- 'cobletop.TopFresh', WHERE WHAT IT READS IS OF BULK AT MOST 1048576: true; the input reads as it did. -/
def topFreshUptoRow : OpenClaim := { program := "ytfcpgeanbklleaagreatdoor", sum := "e6c2bdeabec6b72599e1c258a4500fed9b537daeaae4aef6b39292734b03d92c", func := "coble/cobletop.TopFresh", spec := "topFresh", unfollowed := true, recurses := true, named := ["coble/chart.ways"], plainKeys := false, apart := false, laid := [("coble/chart.ways", laid_coble_chart_ways)], narrowed := true }
def TopFreshUptoSaid : Prop := topFreshUptoRow.holds Tryz.pinned (OpenSpec.upto topFreshSpec)

/-- 'cobletop.TopPaid', WHERE WHAT IT READS IS OF BULK AT MOST 1048576: true; the input reads as it did. -/
def topPaidUptoRow : OpenClaim := { program := "ytfcpgeanbklleaagreatdoor", sum := "e6c2bdeabec6b72599e1c258a4500fed9b537daeaae4aef6b39292734b03d92c", func := "coble/cobletop.TopPaid", spec := "topPaid", unfollowed := true, recurses := true, named := ["coble/chart.ways"], plainKeys := false, apart := false, laid := [("coble/chart.ways", laid_coble_chart_ways)], narrowed := true }
def TopPaidUptoSaid : Prop := topPaidUptoRow.holds Tryz.pinned (OpenSpec.upto topPaidSpec)

end Rows
end Go.Proofs.YtfcpgeanbklleaaGreatDoor
