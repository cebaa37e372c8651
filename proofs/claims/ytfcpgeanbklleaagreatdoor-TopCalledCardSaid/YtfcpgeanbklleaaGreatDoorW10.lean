/- Part of the proof of this claim: text W10. -/
import Derived.Test.YtfcpgeanbklleaaGreatDoorW9
set_option linter.unusedSectionVars false
set_option linter.unusedSimpArgs false
set_option linter.unusedVariables false
namespace LV
open Go Ab
set_option maxRecDepth 100000

structure Mod (bk : Nat) (H H' : Heap) : Prop where
  at' : ∀ b x, At H b x → b ≠ bk → At H' b x
  size : H.size ≤ H'.size

def KnownAt (H : Heap) (bk n : Nat) : Prop := ∃ D, At H bk (.cells false 101 D) ∧ D.length = n * 101 ∧ ∀ v ∈ D, ∃ k, v = .int .i8 k

structure CalledAt (H1 H : Heap) (bc br bk : Nat) (s : Stn) (call len : Int) (pl : Option Addr) (cl : Nat) (ds : List Nat) : Prop where
  ros : Roster H1 br s pl cl ds
  ext : Ext H1 H
  kge : H1.size ≤ bk
  box : At H bc (.cells false 0 [.pointer (some ⟨br, 0, none⟩), .int .i64 call, .int .i64 len, .slice (some ⟨bk, 0, none⟩) s.n s.n])
  known : KnownAt H bk s.n

theorem CalledAt.ext' {H1 H H' : Heap} {bc br bk : Nat} {s : Stn} {call len : Int} {pl : Option Addr} {cl : Nat} {ds : List Nat} (h : CalledAt H1 H bc br bk s call len pl cl ds) (he : Ext H H') : CalledAt H1 H' bc br bk s call len pl cl ds :=
  ⟨h.ros, h.ext.trans he, h.kge, he.at' _ _ h.box, let ⟨D, h1, h2⟩ := h.known; ⟨D, he.at' _ _ h1, h2⟩⟩

theorem CalledAt.mod {H1 H H' : Heap} {bc br bk : Nat} {s : Stn} {call len : Int} {pl : Option Addr} {cl : Nat} {ds : List Nat} (h : CalledAt H1 H bc br bk s call len pl cl ds) (hm : Mod bk H H') (hk : KnownAt H' bk s.n) : CalledAt H1 H' bc br bk s call len pl cl ds := by
  obtain ⟨D, k1, k2, k3⟩ := h.known
  refine ⟨h.ros, ⟨fun b x hx => hm.at' b x (h.ext.at' b x hx) (by have := hx.lt; have := h.kge; omega), Nat.le_trans h.ext.size hm.size⟩, h.kge, hm.at' _ _ h.box (h.box.ne k1 (by simp)), hk⟩

theorem Mod.ofExt {bk : Nat} {H H' : Heap} (h : Ext H H') : Mod bk H H' := ⟨fun b x hx _ => h.at' b x hx, h.size⟩
theorem Mod.trans {bk : Nat} {H H' H2 : Heap} (h : Mod bk H H') (h' : Mod bk H' H2) : Mod bk H H2 := ⟨fun b x hx hn => h'.at' b x (h.at' b x hx hn) hn, Nat.le_trans h.size h'.size⟩
theorem Mod.set {bk : Nat} {H : Heap} {y : Blk} : Mod bk H (H.set bk y) := ⟨fun _ _ hx hn => hx.setNe hn, Nat.le_refl _⟩

variable {B : CallPred} (hB : BaseMono B)
include hB

theorem s165 {H1 H : Heap} {bc br bk : Nat} {s : Stn} {call len : Int} {pl : Option Addr} {cl : Nat} {ds : List Nat} {i : Nat} {tick : Int} {R : Value → Heap → Prop} (hc : CalledAt H1 H bc br bk s call len pl cl ds) (ok : StnOk s) (hi : i < s.n) (hcall : 0 ≤ call ∧ call ≤ 100) (ht : call ≤ tick ∧ tick ≤ call + 100) (hln : 1 ≤ len ∧ len ≤ 40)
    (h1 : ∀ H' b, Mod bk H H' → CalledAt H1 H' bc br bk s call len pl cl ds → R (.bool b) H') :
    ACall AP B (.fn 165) [.pointer (some ⟨bc, 0, none⟩), .int .i64 (i : Int), .int .i64 tick] H R := by
  have hb := hc.box
  obtain ⟨D, k1, k2, k3⟩ := hc.known
  have hne := hb.ne k1 (by simp)
  have hnr := (hc.ext.at' _ _ hc.ros.box).ne k1 (by simp)
  have lk := k1.lt
  (refine run_fn hB (a := a165) ap165 (by decide +kernel) rfl (by decide) ?_; conv => whnf)
  (repeat (first | (refine numP.mk ?_ ?_; exact fN; conv => whnf) | ((first | apply loadP_get | apply loadP_agg' | apply storeP_getR); exact atT; rfl; conv => whnf) | ((first | apply loadP_cells0 | apply loadP_cellsA | apply idxP_sl); (first | exact ceC | exact slC); (first | rfl | assumption); (try intro _ _ _); conv => whnf) | (apply loadP_cells; exact ceC; rfl; conv => whnf)))
  refine idxP_slice (by omega) (by omega) ?_
  (conv => whnf)
  refine idxP_arr (by omega) (by omega) ?_
  (conv => whnf)
  have hoff : 0 + (i : Int).toNat * 101 + (tick - call).toNat * 1 < D.length := by rw [k2]; omega
  generalize ho : 0 + (i : Int).toNat * 101 + (tick - call).toNat * 1 = off at hoff
  obtain ⟨kv, hkv⟩ := k3 _ (List.getElem_mem hoff)
  have hD : D[off]? = some (.int .i8 kv) := by rw [List.getElem?_eq_getElem hoff, hkv]
  have hset : ∀ (E : List Value) k, E.length = s.n * 101 → (∀ v ∈ E, ∃ k, v = .int .i8 k) → (E.set off (.int .i8 k)).length = s.n * 101 ∧ ∀ v ∈ E.set off (.int .i8 k), ∃ k, v = .int .i8 k := by
    intro E k e1 e2
    refine ⟨by simp [e1], fun v hv => ?_⟩
    rcases List.mem_or_eq_of_mem_set hv with h | h
    · exact e2 v h
    · exact ⟨k, h⟩
  refine loadP_get k1 hD ?_
  (conv => whnf)
  refine brP_intro (fun _ => ?_) (fun _ => ?_)
  · (conv => whnf)
    refine storeP_get k1 rfl (by omega) rfl ?_
    (conv => whnf)
    have s1 := hset D (-1) k2 k3
    have a1 : At (H.set bk (.cells false 101 (D.set off (.int .i8 (-1))))) bk (.cells false 101 (D.set off (.int .i8 (-1)))) := At.setSelf lk
    have m1 : Mod bk H (H.set bk (.cells false 101 (D.set off (.int .i8 (-1))))) := Mod.set
    have c1 := hc.mod m1 ⟨_, a1, s1⟩
    have b1 := c1.box
    refine loadP_get b1 rfl ?_
    (conv => whnf)
    refine loadP_get b1 rfl ?_
    (conv => whnf)
    refine callP_fn ?_
    refine s77 hB (c1.ros.ext c1.ext) ok hi (by omega) hln fun H2 u e2 => ?_
    have a2 := e2.at' _ _ a1
    have c2 := c1.ext' e2
    have m2 := m1.trans (Mod.ofExt e2)
    (conv => whnf)
    refine brP_intro (fun _ => ?_) (fun _ => ?_)
    · (conv => whnf)
      refine storeP_get a2 rfl (by rw [List.length_set]; omega) rfl ?_
      (conv => whnf)
      have s3 := hset _ 1 s1.1 s1.2
      have a3 : At (H2.set bk (.cells false 101 ((D.set off (.int .i8 (-1))).set off (.int .i8 1)))) bk (.cells false 101 ((D.set off (.int .i8 (-1))).set off (.int .i8 1))) := At.setSelf a2.lt
      have m3 : Mod bk H2 (H2.set bk (.cells false 101 ((D.set off (.int .i8 (-1))).set off (.int .i8 1)))) := Mod.set
      have c3 := c2.mod m3 ⟨_, a3, s3⟩
      refine loadP_get (v := .int .i8 1) a3 (by rw [List.getElem?_set_self (by rw [List.length_set]; omega)]) ?_
      (conv => whnf)
      exact h1 _ _ (m2.trans m3) c3
    · (conv => whnf)
      refine loadP_get (v := .int .i8 (-1)) a2 (by rw [List.getElem?_set_self (by omega)]) ?_
      (conv => whnf)
      exact h1 _ _ m2 c2
  · (conv => whnf)
    refine loadP_get k1 hD ?_
    (conv => whnf)
    exact h1 _ _ (Mod.ofExt (Ext.refl _)) hc
end LV
