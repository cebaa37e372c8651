/- Facts of bits.Mul, closed calls; with the look at examples they are the base of the walks of the launches. -/
import Derived.Test.YtfcpgeanbklleaaGreatDoorFL
set_option linter.unusedSectionVars false
set_option linter.unusedSimpArgs false
set_option linter.unusedVariables false
namespace LV
open Go Ab Go.Proofs
set_option maxRecDepth 100000
def mulF (n : Nat) : Fact := ⟨180, [.int .u64 1, .int .u64 (n : Int)], [(0, 0, lvWays)], .tuple ⟨[.int .u64 0, .int .u64 (n : Int)]⟩⟩
noncomputable def okM (n : Nat) : Bool := isV (((runN AP (orcOf []) 20).fn (mulF n).f).run ((mulF n).args.map of1) ((mulF n).fh 1)) (of2 (mulF n).v)
theorem eM : (List.range 145).all okM = true := by decide +kernel
theorem oM : (List.range 145).all (fun n => (mulF n).ok 1 1) = true := by decide +kernel
theorem cM {n : Nat} (h : okM n = true) (ho : (mulF n).ok 1 1 = true) : Conc Tryz.prog (.fn (mulF n).f) (mulF n).args ((mulF n).heap 1) fun v _ => v = (mulF n).v :=
  fact_of mixes agrees (BFacts.mono []) (fun _ _ _ _ h => by obtain ⟨_, h, _⟩ := h; cases h) (orcOf_ok []) (ng := 1) ho (by decide) h
def baseL : List Fact := lvLives :: (List.range 145).map mulF
theorem bBase : ∀ φ ∈ baseL, φ.ok Tryz.prog.globals.size 1 = true ∧ Conc Tryz.prog (.fn φ.f) φ.args (φ.heap 1) fun v _ => v = φ.v := by
  intro φ h
  rcases List.mem_cons.1 h with h | h
  · exact bLives φ (by simp [h])
  · obtain ⟨n, hn, rfl⟩ := List.mem_map.1 h
    exact ⟨by rw [oneG]; exact List.all_eq_true.1 oM n hn, cM (List.all_eq_true.1 eM n hn) (List.all_eq_true.1 oM n hn)⟩
theorem base_mul {n : Nat} {x : Int} {H : Heap} {R : Value → Heap → Prop} (hn : n ≤ 144) (hx : x = (n : Int)) (hW : At H 0 (.cells true 0 lvWays)) (hR : R (.tuple ⟨[.int .u64 0, .int .u64 (n : Int)]⟩) H) : ACall AP (BFacts baseL) (.fn 180) [.int .u64 1, .int .u64 x] H R := by
  subst hx
  refine .base ⟨mulF n, List.mem_cons_of_mem _ (List.mem_map.2 ⟨n, List.mem_range.2 (by omega), rfl⟩), rfl, rfl, ?_, hR⟩
  intro b e cs hm
  simp [mulF] at hm
  obtain ⟨rfl, rfl, rfl⟩ := hm
  exact ⟨true, hW.get⟩
theorem base_lives {H : Heap} {R : Value → Heap → Prop} (hW : At H 0 (.cells true 0 lvWays)) (hR : R (.bool true) H) : ACall AP (BFacts baseL) (.fn 12) [] H R := by
  refine .base ⟨lvLives, by simp [baseL], rfl, rfl, ?_, hR⟩
  intro b e cs hm
  simp [lvLives] at hm
  obtain ⟨rfl, rfl, rfl⟩ := hm
  exact ⟨true, hW.get⟩
end LV
