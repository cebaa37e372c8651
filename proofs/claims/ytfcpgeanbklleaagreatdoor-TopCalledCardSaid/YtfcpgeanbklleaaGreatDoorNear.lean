/- What a write leaves as it was; values that are the same. -/
import Derived.Test.YtfcpgeanbklleaaGreatDoorCore
set_option linter.unusedSectionVars false
set_option linter.unusedSimpArgs false
set_option linter.unusedVariables false
namespace Ab
open Go

theorem heap_ext {H H' : Heap} (hg : ∀ k, H.get k = H'.get k) (hs : H.size = H'.size) : H = H' := by
  cases H; cases H'
  simp only [Heap.mk.injEq]
  exact ⟨funext hg, hs⟩

structure Near (H H' : Heap) (b : Nat) : Prop where
  same : ∀ i, i ≠ b → i ≠ H.size → H'.get i = H.get i
  size : H'.size = H.size → b ≠ H.size → H'.get H.size = H.get H.size

/-! ### The block that a write touches -/

def blkOf : Value → Nat → Nat
  | .pointer (some a), _ => a.block
  | .slice (some a) _ _, _ => a.block
  | .map (some r), _ => r
  | _, n => n

def touched (ρ : Operand → Value) (n : Nat) : AOp → Nat
  | .store _ a _ => blkOf (ρ a) n
  | .append _ _ _ s _ _ => blkOf (ρ s) n
  | .copy _ d _ => blkOf (ρ d) n
  | .clear _ _ x => blkOf (ρ x) n
  | .mapUpdate _ m _ _ => blkOf (ρ m) n
  | _ => n

theorem Near.refl (H : Heap) (b : Nat) : Near H H b := ⟨fun _ _ _ => rfl, fun _ _ => rfl⟩

theorem Near.set (H : Heap) (b : Nat) (x : Blk) : Near H (H.set b x) b := by
  refine ⟨fun i hi _ => ?_, fun _ hb => ?_⟩
  · rw [Heap.get_set, if_neg hi]
  · rw [Heap.get_set, if_neg (Ne.symm hb)]

theorem Near.push (H : Heap) (b : Nat) (x : Blk) : Near H (H.push x) b := by
  refine ⟨fun i _ hi => ?_, fun h _ => ?_⟩
  · rw [Heap.get_push, if_neg hi]
  · rw [Heap.size_push] at h; omega

theorem Near.setPush (H : Heap) (b : Nat) (x y : Blk) : Near H ((H.set b x).push y) b := by
  refine ⟨fun i hb hi => ?_, fun h _ => ?_⟩
  · rw [Heap.get_push, Heap.size_set, if_neg hi, Heap.get_set, if_neg hb]
  · rw [Heap.size_push, Heap.size_set] at h; omega

theorem storeA_near {H H' : Heap} {b o : Nat} {vs : List Value} (h : storeA H b o vs = some H') : Near H H' b := by
  unfold storeA at h
  split at h
  · split at h
    · simp only [Option.some.injEq] at h; subst h; exact Near.set _ _ _
    · simp at h
  · simp at h

theorem writeOp_near {ρ : Operand → Value} {H H' : Heap} {a : AOp} {v : Value} {n : Nat} (h : writeOp ρ H a = some (v, H')) : Near H H' (touched ρ n a) := by
  cases a <;> simp only [writeOp, reduceCtorEq] at h
  · -- store
    rename_i size a x
    split at h
    · rename_i ha
      split at h
      · simp only [Option.map_eq_some_iff, Prod.mk.injEq] at h
        obtain ⟨H1, h1, _, rfl⟩ := h
        simp only [touched, ha, blkOf]
        exact storeA_near h1
      · simp at h
    · simp at h
  · -- append
    rename_i esz bytes z s x t
    simp only [touched]
    generalize ρ s = sv at h
    unfold appendA at h
    split at h
    · simp at h
    · split at h
      · simp at h
      · split at h
        · rename_i base len cap
          split at h
          · simp only [Option.some.injEq, Prod.mk.injEq] at h; obtain ⟨_, rfl⟩ := h; exact Near.refl _ _
          · split at h
            · simp at h
            · split at h
              · split at h
                · rename_i b o
                  split at h
                  · split at h
                    · simp at h
                    · split at h
                      · simp only [Option.some.injEq, Prod.mk.injEq] at h; obtain ⟨_, rfl⟩ := h; exact Near.set _ _ _
                      · simp only [Option.some.injEq, Prod.mk.injEq] at h; obtain ⟨_, rfl⟩ := h; exact Near.setPush _ _ _ _
                  · simp at h
                · simp at h
              · split at h
                · split at h
                  · split at h
                    · split at h
                      · simp only [Option.some.injEq, Prod.mk.injEq] at h; obtain ⟨_, rfl⟩ := h; exact Near.set _ _ _
                      · simp at h
                    · simp at h
                  · simp at h
                · split at h
                  · simp only [Option.some.injEq, Prod.mk.injEq] at h; obtain ⟨_, rfl⟩ := h; exact Near.push _ _ _
                  · simp at h
        · simp at h
  · -- copy
    rename_i esz d s
    simp only [touched]
    generalize ρ d = dv at h
    unfold copyA at h
    split at h
    · rename_i m dl _
      simp only at h
      split at h
      · simp only [Option.some.injEq, Prod.mk.injEq] at h; obtain ⟨_, rfl⟩ := h; exact Near.refl _ _
      · split at h
        · simp only [Option.some.injEq, Prod.mk.injEq] at h; obtain ⟨_, rfl⟩ := h; exact Near.refl _ _
        · simp only [Option.map_eq_some_iff, Prod.mk.injEq] at h
          obtain ⟨H1, h1, _, rfl⟩ := h
          exact storeA_near h1
      · simp at h
    · simp at h
  · rename_i esz z x
    simp only [touched, Option.map_eq_some_iff, Prod.mk.injEq] at h ⊢
    obtain ⟨H1, h1, _, rfl⟩ := h
    generalize ρ x = xv at h1
    unfold clearA at h1
    split at h1
    · simp only [Option.some.injEq] at h1; subst h1; exact Near.refl _ _
    · split at h1
      · simp only [Option.some.injEq] at h1; subst h1; exact Near.refl _ _
      · exact storeA_near h1
    · simp at h1
  · rename_i kk m k x
    simp only [touched, Option.map_eq_some_iff, Prod.mk.injEq] at h ⊢
    obtain ⟨H1, h1, _, rfl⟩ := h
    generalize ρ m = mv at h1
    unfold mapUpdateA at h1
    split at h1
    · simp at h1
    · split at h1
      · split at h1
        · split at h1
          · simp only [Option.some.injEq] at h1; subst h1; exact Near.set _ _ _
          · simp only [Option.some.injEq] at h1; subst h1; exact Near.set _ _ _
          · simp at h1
        · simp at h1
      · simp at h1


def sameV : Value → Value → Bool
  | .bool a, .bool b => a == b
  | .int k a, .int k' b => decide (k = k') && decide (a = b)
  | .pointer none, .pointer none => true
  | .pointer (some ⟨a, o, none⟩), .pointer (some ⟨b, p, none⟩) => decide (a = b) && decide (o = p)
  | .slice none a b, .slice none c d => decide (a = c) && decide (b = d)
  | .slice (some ⟨a, o, none⟩) l c, .slice (some ⟨b, p, none⟩) l' c' => decide (a = b) && decide (o = p) && decide (l = l') && decide (c = c')
  | .map none, .map none => true
  | .map (some a), .map (some b) => decide (a = b)
  | .nilFunc, .nilFunc => true
  | .nilIface, .nilIface => true
  | _, _ => false

theorem sameV_eq : ∀ {a b : Value}, sameV a b = true → a = b := by
  intro a b h
  unfold sameV at h
  split at h <;> simp_all


end Ab
