/- From an abstract call to the model's 'Calls'. -/
import Derived.Test.YtfcpgeanbklleaaGreatDoorSound
import Derived.Below
set_option linter.unusedSectionVars false
set_option linter.unusedSimpArgs false
set_option linter.unusedVariables false
namespace Ab
open Go

section
variable {P : Program}

def heapOf (bs : List Blk) : Heap := ⟨fun i => bs[i]?, bs.length⟩
def injOf (ss : List Spot) : Inj := fun i => ss[i]?

/-- A heap of blocks that can only be read, in a world. -/
theorem sim_of {bs : List Blk} {ss : List Spot} {W : World} (hl : bs.length = ss.length) (hro : ∀ x ∈ bs, x.rw = false)
    (hg : ∀ g, g < P.globals.size → ∃ s : Spot, ss[g]? = some s ∧ s.blk = g ∧ s.sh = 0) (hd : ∀ s ∈ ss, s.blk < W.heap.size)
    (hb : ∀ (i : Nat) (s : Spot) (x : Blk), ss[i]? = some s → bs[i]? = some x → BRel P (injOf ss) s x (W.heap[s.blk]?)) : Sim P (injOf ss) (heapOf bs) W where
  wf i hi := List.getElem?_eq_none_iff.2 hi
  glob := hg
  dom b s h := by
    have h' : ss[b]? = some s := h
    refine ⟨?_, hd s (List.mem_of_getElem? h')⟩
    have := (List.getElem?_eq_some_iff.1 h').1
    change b < bs.length
    omega
  inj b b' s s' x x' _ _ hg1 _ hr := by
    have h' : bs[b]? = some x := hg1
    rw [hro x (List.mem_of_getElem? h')] at hr
    cases hr
  blk b s x h1 h2 := hb b s x h1 h2

theorem calls_of (hmix : P.follows .mixedOrders = true) {AP : AProg} (hAP : Agrees P AP) {B : CallPred} (hB : ∀ t args H R, B t args H R → Conc P t args H R) {f : FuncId} {args : List Value} {cargs : Array Value} {j : Inj} {H : Heap} {W : World}
    (hs : Sim P j H W) (hro : ∀ b x, H.get b = some x → x.rw = false) (hargs : VsRel j args cargs.toList) {u : Value} (hu : ∀ j v, VRel j u v → v = u) (h : ACall AP B (.fn f) args H fun v _ => v = u) :
    Calls P f cargs W fun e w' => e = .returned u ∧ RowKit.Below W.heap.size W w' := by
  have hc := acall_sound hmix hAP hB h
  intro cs
  obtain ⟨v, H', j', cv, w', fr, h1, h2, h3, h4, h5, h6, h7⟩ := hc.2 j W cargs hs hargs cs
  subst h1
  have := hu _ _ h2
  subst this
  refine ⟨_, w', fr, ⟨rfl, ?_⟩, h5, h6, h7⟩
  refine ⟨h4.keep.os, h4.keep.tape, h4.keep.output, h4.keep.size, fun k hk => h4.keep.same k hk ?_⟩
  intro b s x _ hg hr
  rw [hro b x hg] at hr
  cases hr

end
end Ab
