/- Part of the proof of this claim: text W1. -/
import Derived.Test.YtfcpgeanbklleaaGreatDoorAPB
import Derived.Test.YtfcpgeanbklleaaGreatDoorStops
set_option linter.unusedSectionVars false
set_option linter.unusedSimpArgs false
set_option linter.unusedVariables false
namespace LV
open Go Ab
set_option maxRecDepth 100000
variable {B : CallPred} (hB : BaseMono B)
include hB

theorem s42 {a b c : Int} {H : Heap} {R : Value → Heap → Prop} (h1 : b ≤ a → a ≤ c → R (.bool true) H) (h2 : ¬ (b ≤ a ∧ a ≤ c) → R (.bool false) H) : ACall AP B (.fn 42) [.int .i64 a, .int .i64 b, .int .i64 c] H R := by
  (refine run_fn hB (a := a42) ap42 (by decide +kernel) rfl (by decide) ?_; conv => whnf)
  refine ⟨fun hc => ?_, fun hc => ?_⟩ <;> conv => whnf
  · refine ⟨fun hd => ?_, fun hd => ?_⟩ <;> conv => whnf
    · exact h1 hc hd
    · exact h2 fun h => hd h.2
  · exact h2 fun h => hc h.1

theorem s53 {a b c : Int} {H : Heap} {R : Value → Heap → Prop} (h1 : b ≤ a → a ≤ c → R (.bool true) H) (h2 : ¬ (b ≤ a ∧ a ≤ c) → R (.bool false) H) : ACall AP B (.fn 53) [.int .i64 a, .int .i64 b, .int .i64 c] H R := by
  (refine run_fn hB (a := a53) ap53 (by decide +kernel) rfl (by decide) ?_; conv => whnf)
  refine ⟨fun hc => ?_, fun hc => ?_⟩ <;> conv => whnf
  · refine ⟨fun hd => ?_, fun hd => ?_⟩ <;> conv => whnf
    · exact h1 hc hd
    · exact h2 fun h => hd h.2
  · exact h2 fun h => hc h.1

theorem s44 {a : Int} {H : Heap} {R : Value → Heap → Prop} (h1 : -200 ≤ a → a ≤ 400 → R (.bool true) H) (h2 : ¬ (-200 ≤ a ∧ a ≤ 400) → R (.bool false) H) : ACall AP B (.fn 44) [.int .i64 a] H R := by
  (refine run_fn hB (a := a44) ap44 (by decide +kernel) rfl (by decide) ?_; conv => whnf)
  exact callP_fn (s42 hB h1 h2)

theorem s105 {a : Int} {H : Heap} {R : Value → Heap → Prop} (h1 : -200 ≤ a → a ≤ 400 → R (.bool true) H) (h2 : ¬ (-200 ≤ a ∧ a ≤ 400) → R (.bool false) H) : ACall AP B (.fn 105) [.int .i64 a] H R := by
  (refine run_fn hB (a := a105) ap105 (by decide +kernel) rfl (by decide) ?_; conv => whnf)
  exact callP_fn (s53 hB h1 h2)

theorem s91 {a : Int} {H : Heap} {R : Value → Heap → Prop} (h1 : 0 ≤ a → a ≤ 255 → R (.bool true) H) (h2 : ¬ (0 ≤ a ∧ a ≤ 255) → R (.bool false) H) : ACall AP B (.fn 91) [.int .i64 a] H R := by
  (refine run_fn hB (a := a91) ap91 (by decide +kernel) rfl (by decide) ?_; conv => whnf)
  exact callP_fn (s42 hB h1 h2)

theorem s163 {a : Int} {H : Heap} {R : Value → Heap → Prop} (h1 : 0 ≤ a → a ≤ 255 → R (.bool true) H) (h2 : ¬ (0 ≤ a ∧ a ≤ 255) → R (.bool false) H) : ACall AP B (.fn 163) [.int .i64 a] H R := by
  (refine run_fn hB (a := a163) ap163 (by decide +kernel) rfl (by decide) ?_; conv => whnf)
  exact callP_fn (s53 hB h1 h2)

/-- A number as a cell. -/
def encI (n : Int) : List Value := [.int .i64 n]

theorem s16 {p : Option Addr} {n c : Nat} {l : List Int} {x : Int} {H : Heap} {R : Value → Heap → Prop} (hl : SlP H 1 encI p n l) (hn : n < 1000000)
    (h1 : x ∈ l → R (.bool true) H) (h2 : ¬ x ∈ l → R (.bool false) H) : ACall AP B (.fn 16) [.slice p n c, .int .i64 x] H R := by
  (refine run_fn hB (a := a16) ap16 (by decide +kernel) rfl (by decide) ?_; conv => whnf)
  refine loop_pins (CallMono.acall hB) (σ := Nat) (fun i => [(0, .slice p n c), (1, .int .i64 x), (5, .int .i64 (i : Int))]) (fun i H' => H' = H ∧ i ≤ n ∧ ∀ k, k < i → l[k]? ≠ some x) (fun i => n - i) 0 ?_ ?_ ?_
  · exact ⟨rfl, rfl, rfl, trivial⟩
  · exact ⟨rfl, by omega, by simp⟩
  rintro i E H ⟨rfl, hi, hk⟩
  conv => whnf
  refine ⟨fun hlt => ?_, fun hge => ?_⟩ <;> conv => whnf
  · have hlen := hl.len
    obtain ⟨y, hy⟩ : ∃ y, l[i]? = some y := ⟨l[i], by simp⟩
    refine idxP_sl hl hy fun b o hc => ?_
    (conv => whnf)
    (repeat (first | (refine numP.mk ?_ ?_; exact fN; conv => whnf) | ((first | apply loadP_get | apply loadP_agg' | apply storeP_getR); exact atT; rfl; conv => whnf) | ((first | apply loadP_cells0 | apply loadP_cellsA | apply idxP_sl); (first | exact ceC | exact slC); (first | rfl | assumption); (try intro _ _ _); conv => whnf) | (apply loadP_cells; exact ceC; rfl; conv => whnf)))
    refine ⟨fun he => ?_, fun hne => ?_⟩ <;> conv => whnf
    · exact h1 (by rw [← he]; exact List.mem_of_getElem? hy)
    · (repeat (first | (refine numP.mk ?_ ?_; exact fN; conv => whnf) | ((first | apply loadP_get | apply loadP_agg' | apply storeP_getR); exact atT; rfl; conv => whnf) | ((first | apply loadP_cells0 | apply loadP_cellsA | apply idxP_sl); (first | exact ceC | exact slC); (first | rfl | assumption); (try intro _ _ _); conv => whnf) | (apply loadP_cells; exact ceC; rfl; conv => whnf)))
      refine ⟨i + 1, ⟨rfl, rfl, rfl, trivial⟩, ⟨rfl, by omega, fun k hk' => ?_⟩, by omega⟩
      by_cases hki : k = i
      · subst hki; rw [hy]; simpa using hne
      · exact hk k (by omega)
  · refine h2 fun hm => ?_
    obtain ⟨k, hk1, hk2⟩ := List.getElem_of_mem hm
    have hlen := hl.len
    exact hk k (by omega) (by rw [List.getElem?_eq_getElem hk1, hk2])
end LV
namespace LV
open Go Ab
set_option maxRecDepth 100000

/-- A hand as it lies in cells: skills, away, the slice of the log, the answer; and what the log holds. -/
structure Hd where
  skills : Int
  lo : Int
  hi : Int
  p : Option Addr
  n : Nat
  c : Nat
  answer : Int
  log : List (Int × Int)

def encS (s : Int × Int) : List Value := [.int .i64 s.1, .int .i64 s.2]
def encH (h : Hd) : List Value := [.int .i64 h.skills, .int .i64 h.lo, .int .i64 h.hi, .slice h.p h.n h.c, .int .i64 h.answer]

def LogOk : Int → List (Int × Int) → Prop
  | _, [] => True
  | last, s :: l => last + 1 ≤ s.1 ∧ s.1 ≤ s.2 ∧ s.2 < 0 ∧ LogOk s.2 l

structure HdOk (h : Hd) : Prop where
  skills : 0 ≤ h.skills ∧ h.skills ≤ 255
  away : 0 ≤ h.lo ∧ h.lo ≤ h.hi ∧ h.hi ≤ 60
  len : h.n ≤ 10
  answer : 0 ≤ h.answer ∧ h.answer ≤ 2
  log : LogOk (-201) h.log

variable {B : CallPred} (hB : BaseMono B)
include hB

/-- The log from a place on, with the last tick. -/
theorem s90 {h : Hd} {H : Heap} {R : Value → Heap → Prop} (hl : SlP H 2 encS h.p h.n h.log) (h1 : ∀ H', Ext H H' → HdOk h → R (.bool true) H') (h2 : ∀ H', Ext H H' → ¬ HdOk h → R (.bool false) H') :
    ACall AP B (.fn 90) [.agg ⟨encH h⟩] H R := by
  (refine run_fn hB (a := a90) ap90 (by decide +kernel) rfl (by decide) ?_; conv => whnf)
  (repeat (first | (refine numP.mk ?_ ?_; exact fN; conv => whnf) | ((first | apply loadP_get | apply loadP_agg' | apply storeP_getR); exact atT; rfl; conv => whnf) | ((first | apply loadP_cells0 | apply loadP_cellsA | apply idxP_sl); (first | exact ceC | exact slC); (first | rfl | assumption); (try intro _ _ _); conv => whnf) | (apply loadP_cells; exact ceC; rfl; conv => whnf)))
  refine callP_fn (s91 hB (fun a1 a2 => ?_) (fun a1 => ?_))
  rotate_left
  · (conv => whnf)
    exact h2 _ exT fun hk => a1 hk.skills
  (conv => whnf)
  (repeat (first | (refine numP.mk ?_ ?_; exact fN; conv => whnf) | ((first | apply loadP_get | apply loadP_agg' | apply storeP_getR); exact atT; rfl; conv => whnf) | ((first | apply loadP_cells0 | apply loadP_cellsA | apply idxP_sl); (first | exact ceC | exact slC); (first | rfl | assumption); (try intro _ _ _); conv => whnf) | (apply loadP_cells; exact ceC; rfl; conv => whnf)))
  refine callP_fn (s42 hB (fun a3 a4 => ?_) (fun a3 => ?_))
  rotate_left
  · (conv => whnf)
    exact h2 _ exT fun hk => a3 ⟨hk.away.1, hk.away.2.1⟩
  (conv => whnf)
  (repeat (first | (refine numP.mk ?_ ?_; exact fN; conv => whnf) | ((first | apply loadP_get | apply loadP_agg' | apply storeP_getR); exact atT; rfl; conv => whnf) | ((first | apply loadP_cells0 | apply loadP_cellsA | apply idxP_sl); (first | exact ceC | exact slC); (first | rfl | assumption); (try intro _ _ _); conv => whnf) | (apply loadP_cells; exact ceC; rfl; conv => whnf)))
  refine ifP.mk (fun a5 => ?_) (fun a5 => ?_)
  · (conv => whnf)
    exact h2 _ exT fun hk => by have := hk.away; omega
  (conv => whnf)
  (repeat (first | (refine numP.mk ?_ ?_; exact fN; conv => whnf) | ((first | apply loadP_get | apply loadP_agg' | apply storeP_getR); exact atT; rfl; conv => whnf) | ((first | apply loadP_cells0 | apply loadP_cellsA | apply idxP_sl); (first | exact ceC | exact slC); (first | rfl | assumption); (try intro _ _ _); conv => whnf) | (apply loadP_cells; exact ceC; rfl; conv => whnf)))
  refine ifP.mk (fun a6 => ?_) (fun a6 => ?_)
  · (conv => whnf)
    exact h2 _ exT fun hk => by have := hk.len; omega
  (conv => whnf)
  (repeat (first | (refine numP.mk ?_ ?_; exact fN; conv => whnf) | ((first | apply loadP_get | apply loadP_agg' | apply storeP_getR); exact atT; rfl; conv => whnf) | ((first | apply loadP_cells0 | apply loadP_cellsA | apply idxP_sl); (first | exact ceC | exact slC); (first | rfl | assumption); (try intro _ _ _); conv => whnf) | (apply loadP_cells; exact ceC; rfl; conv => whnf)))
  refine callP_fn (s42 hB (fun a7 a8 => ?_) (fun a7 => ?_))
  rotate_left
  · (conv => whnf)
    exact h2 _ exT fun hk => a7 hk.answer
  (conv => whnf)
  generalize hH : H.push _ = H1
  have hE : Ext H H1 := by rw [← hH]; exact exT
  have hA : At H1 H.size (.cells false 0 (encH h)) := by rw [← hH]; exact At.self
  have hlen := hl.len
  refine loop_pins (CallMono.acall hB) (σ := Nat × Int) (fun s => [(1, .pointer (some ⟨H.size, 0, none⟩)), (3, .int .i64 s.2), (4, .int .i64 (s.1 : Int))])
    (fun s H' => H' = H1 ∧ s.1 ≤ h.n ∧ -201 ≤ s.2 ∧ s.2 < 0 ∧ (LogOk (-201) h.log ↔ LogOk s.2 (h.log.drop s.1))) (fun s => h.n - s.1) (0, -201) ?_ ?_ ?_
  · exact ⟨rfl, rfl, rfl, trivial⟩
  · exact ⟨rfl, by simp, by simp, by simp, by simp⟩
  rintro ⟨i, last⟩ E H' ⟨rfl, k1, k2, k3, k4⟩
  (conv => whnf)
  (repeat (first | (refine numP.mk ?_ ?_; exact fN; conv => whnf) | ((first | apply loadP_get | apply loadP_agg' | apply storeP_getR); exact atT; rfl; conv => whnf) | ((first | apply loadP_cells0 | apply loadP_cellsA | apply idxP_sl); (first | exact ceC | exact slC); (first | rfl | assumption); (try intro _ _ _); conv => whnf) | (apply loadP_cells; exact ceC; rfl; conv => whnf)))
  refine ifP.mk (fun hlt => ?_) (fun hge => ?_)
  · (conv => whnf)
    (repeat (first | (refine numP.mk ?_ ?_; exact fN; conv => whnf) | ((first | apply loadP_get | apply loadP_agg' | apply storeP_getR); exact atT; rfl; conv => whnf) | ((first | apply loadP_cells0 | apply loadP_cellsA | apply idxP_sl); (first | exact ceC | exact slC); (first | rfl | assumption); (try intro _ _ _); conv => whnf) | (apply loadP_cells; exact ceC; rfl; conv => whnf)))
    obtain ⟨x, hx⟩ : ∃ x, h.log[i]? = some x := ⟨h.log[i], by simp⟩
    (repeat (first | (refine numP.mk ?_ ?_; exact fN; conv => whnf) | ((first | apply loadP_get | apply loadP_agg' | apply storeP_getR); exact atT; rfl; conv => whnf) | ((first | apply loadP_cells0 | apply loadP_cellsA | apply idxP_sl); (first | exact ceC | exact slC); (first | rfl | assumption); (try intro _ _ _); conv => whnf) | (apply loadP_cells; exact ceC; rfl; conv => whnf)))
    have hs : h.log.drop i = x :: h.log.drop (i + 1) := by
      have hi := (List.getElem?_eq_some_iff.1 hx)
      rw [List.drop_eq_getElem_cons hi.1, hi.2]
    rw [hs] at k4
    simp only [LogOk] at k4
    refine callP_fn (s42 hB (fun b1 b2 => ?_) (fun b1 => ?_))
    · (conv => whnf)
      (repeat (first | (refine numP.mk ?_ ?_; exact fN; conv => whnf) | ((first | apply loadP_get | apply loadP_agg' | apply storeP_getR); exact atT; rfl; conv => whnf) | ((first | apply loadP_cells0 | apply loadP_cellsA | apply idxP_sl); (first | exact ceC | exact slC); (first | rfl | assumption); (try intro _ _ _); conv => whnf) | (apply loadP_cells; exact ceC; rfl; conv => whnf)))
      refine ifP.mk (fun b3 => ?_) (fun b3 => ?_)
      · (conv => whnf)
        exact h2 _ hE fun hk => by have := k4.1 hk.log; omega
      · (conv => whnf)
        (repeat (first | (refine numP.mk ?_ ?_; exact fN; conv => whnf) | ((first | apply loadP_get | apply loadP_agg' | apply storeP_getR); exact atT; rfl; conv => whnf) | ((first | apply loadP_cells0 | apply loadP_cellsA | apply idxP_sl); (first | exact ceC | exact slC); (first | rfl | assumption); (try intro _ _ _); conv => whnf) | (apply loadP_cells; exact ceC; rfl; conv => whnf)))
        refine ⟨(i + 1, x.2), ⟨rfl, rfl, rfl, trivial⟩, ⟨rfl, ?_, ?_, ?_, ?_⟩, ?_⟩
        · show i + 1 ≤ h.n; omega
        · show -201 ≤ x.2; omega
        · show x.2 < 0; omega
        · rw [k4]
          exact ⟨fun hh => hh.2.2.2, fun hh => ⟨b1, b2, by omega, hh⟩⟩
        · show h.n - (i + 1) < h.n - i; omega
    · (conv => whnf)
      exact h2 _ hE fun hk => b1 ⟨(k4.1 hk.log).1, (k4.1 hk.log).2.1⟩
  · (conv => whnf)
    have hd : h.log.drop i = [] := List.drop_eq_nil_of_le (by have : ¬ ((i : Int) < (h.n : Int)) := hge; omega)
    rw [hd] at k4
    refine h1 _ hE ⟨⟨a1, a2⟩, ⟨a3, a4, by omega⟩, by omega, ⟨a7, a8⟩, k4.2 trivial⟩

/-- A station as it lies in cells. -/
structure Stn where
  p : Option Addr
  n : Nat
  c : Nat
  window : Int
  duty : Int
  hands : List Hd

def encSt (s : Stn) : List Value := [.slice s.p s.n s.c, .int .i64 s.window, .int .i64 s.duty]

/-- The station's memory. -/
structure StnAt (H : Heap) (s : Stn) : Prop where
  hands : SlP H 5 encH s.p s.n s.hands
  logs : ∀ h ∈ s.hands, SlP H 2 encS h.p h.n h.log
  forms : ∀ h ∈ s.hands, h.p = none ∨ ∃ b o, h.p = some ⟨b, o, none⟩

omit hB in
theorem StnAt.ext {H H' : Heap} {s : Stn} (h : StnAt H s) (he : Ext H H') : StnAt H' s := ⟨h.hands.ext he, fun x hx => (h.logs x hx).ext he, h.forms⟩

structure StnOk (s : Stn) : Prop where
  len : s.n ≤ 10
  window : 1 ≤ s.window ∧ s.window ≤ 100
  duty : 0 ≤ s.duty ∧ s.duty ≤ s.window
  hands : ∀ h ∈ s.hands, HdOk h

theorem s41 {s : Stn} {H : Heap} {R : Value → Heap → Prop} (hs : StnAt H s) (h1 : ∀ H', Ext H H' → StnOk s → R (.int .i64 0) H') (h2 : ∀ H', Ext H H' → ¬ StnOk s → R (.int .i64 70) H') :
    ACall AP B (.fn 41) [.agg ⟨encSt s⟩] H R := by
  have hl := hs.hands
  have hlen := hl.len
  (refine run_fn hB (a := a41) ap41 (by decide +kernel) rfl (by decide) ?_; conv => whnf)
  (repeat (first | (refine numP.mk ?_ ?_; exact fN; conv => whnf) | ((first | apply loadP_get | apply loadP_agg' | apply storeP_getR); exact atT; rfl; conv => whnf) | ((first | apply loadP_cells0 | apply loadP_cellsA | apply idxP_sl); (first | exact ceC | exact slC); (first | rfl | assumption); (try intro _ _ _); conv => whnf) | (apply loadP_cells; exact ceC; rfl; conv => whnf)))
  refine ifP.mk (fun a1 => ?_) (fun a1 => ?_)
  · (conv => whnf)
    exact h2 _ exT fun hk => by have := hk.len; omega
  (conv => whnf)
  (repeat (first | (refine numP.mk ?_ ?_; exact fN; conv => whnf) | ((first | apply loadP_get | apply loadP_agg' | apply storeP_getR); exact atT; rfl; conv => whnf) | ((first | apply loadP_cells0 | apply loadP_cellsA | apply idxP_sl); (first | exact ceC | exact slC); (first | rfl | assumption); (try intro _ _ _); conv => whnf) | (apply loadP_cells; exact ceC; rfl; conv => whnf)))
  refine callP_fn (s42 hB (fun a2 a3 => ?_) (fun a2 => ?_))
  rotate_left
  · (conv => whnf)
    exact h2 _ exT fun hk => a2 hk.window
  (conv => whnf)
  (repeat (first | (refine numP.mk ?_ ?_; exact fN; conv => whnf) | ((first | apply loadP_get | apply loadP_agg' | apply storeP_getR); exact atT; rfl; conv => whnf) | ((first | apply loadP_cells0 | apply loadP_cellsA | apply idxP_sl); (first | exact ceC | exact slC); (first | rfl | assumption); (try intro _ _ _); conv => whnf) | (apply loadP_cells; exact ceC; rfl; conv => whnf)))
  refine callP_fn (s42 hB (fun a4 a5 => ?_) (fun a4 => ?_))
  rotate_left
  · (conv => whnf)
    exact h2 _ exT fun hk => a4 hk.duty
  (conv => whnf)
  generalize hH : H.push _ = H1
  have hE : Ext H H1 := by rw [← hH]; exact exT
  have hA : At H1 H.size (.cells false 0 (encSt s)) := by rw [← hH]; exact At.self
  refine loop_pins (CallMono.acall hB) (σ := Nat) (fun i => [(1, .pointer (some ⟨H.size, 0, none⟩)), (3, .int .i64 (i : Int))])
    (fun i H' => Ext H1 H' ∧ i ≤ s.n ∧ ∀ k h, k < i → s.hands[k]? = some h → HdOk h) (fun i => s.n - i) 0 ?_ ?_ ?_
  · exact ⟨rfl, rfl, trivial⟩
  · exact ⟨Ext.refl _, by simp, by simp⟩
  rintro i E H' ⟨hE1, k1, k2⟩
  have hA' := hE1.at' _ _ hA
  have hE2 := hE.trans hE1
  (conv => whnf)
  (repeat (first | (refine numP.mk ?_ ?_; exact fN; conv => whnf) | ((first | apply loadP_get | apply loadP_agg' | apply storeP_getR); exact atT; rfl; conv => whnf) | ((first | apply loadP_cells0 | apply loadP_cellsA | apply idxP_sl); (first | exact ceC | exact slC); (first | rfl | assumption); (try intro _ _ _); conv => whnf) | (apply loadP_cells; exact ceC; rfl; conv => whnf)))
  refine ifP.mk (fun hlt => ?_) (fun hge => ?_)
  · (conv => whnf)
    obtain ⟨x, hx⟩ : ∃ x, s.hands[i]? = some x := ⟨s.hands[i], by simp⟩
    have hl' := hl.ext hE2
    have hm := List.mem_of_getElem? hx
    (repeat (first | (refine numP.mk ?_ ?_; exact fN; conv => whnf) | ((first | apply loadP_get | apply loadP_agg' | apply storeP_getR); exact atT; rfl; conv => whnf) | ((first | apply loadP_cells0 | apply loadP_cellsA | apply idxP_sl); (first | exact ceC | exact slC); (first | rfl | assumption); (try intro _ _ _); conv => whnf) | (apply loadP_cells; exact ceC; rfl; conv => whnf)))
    refine callP_fn (s90 hB ((hs.logs x hm).ext hE2) (fun H3 e3 ok => ?_) (fun H3 e3 ok => ?_))
    · (conv => whnf)
      (repeat (first | (refine numP.mk ?_ ?_; exact fN; conv => whnf) | ((first | apply loadP_get | apply loadP_agg' | apply storeP_getR); exact atT; rfl; conv => whnf) | ((first | apply loadP_cells0 | apply loadP_cellsA | apply idxP_sl); (first | exact ceC | exact slC); (first | rfl | assumption); (try intro _ _ _); conv => whnf) | (apply loadP_cells; exact ceC; rfl; conv => whnf)))
      refine ⟨i + 1, ⟨rfl, rfl, trivial⟩, ⟨hE1.trans e3, by omega, ?_⟩, by omega⟩
      intro k h hk hh
      by_cases hki : k = i
      · subst hki; rw [hx] at hh; cases hh; exact ok
      · exact k2 k h (by omega) hh
    · (conv => whnf)
      exact h2 _ (hE2.trans e3) fun hk => ok (hk.hands x hm)
  · (conv => whnf)
    refine h1 _ hE2 ⟨by omega, ⟨a2, a3⟩, ⟨a4, a5⟩, fun h hh => ?_⟩
    obtain ⟨k, hk1, hk2⟩ := List.getElem_of_mem hh
    exact k2 k h (by omega) (by rw [List.getElem?_eq_getElem hk1, hk2])

/-- Seats. -/
structure SeatsOk (n : Nat) (l : List Int) : Prop where
  len : n ≤ 5
  all : ∀ x ∈ l, 0 ≤ x ∧ x ≤ 255

theorem s43 {p : Option Addr} {n c : Nat} {l : List Int} {H : Heap} {R : Value → Heap → Prop} (hl : SlP H 1 encI p n l) (h1 : SeatsOk n l → R (.int .i64 0) H) (h2 : ¬ SeatsOk n l → ∀ e, e ≠ 0 → R (.int .i64 e) H) :
    ACall AP B (.fn 43) [.slice p n c] H R := by
  have hlen := hl.len
  (refine run_fn hB (a := a43) ap43 (by decide +kernel) rfl (by decide) ?_; conv => whnf)
  refine ifP.mk (fun a1 => ?_) (fun a1 => ?_)
  · (conv => whnf)
    exact h2 (fun hk => by have := hk.len; omega) _ (by decide)
  (conv => whnf)
  refine loop_pins (CallMono.acall hB) (σ := Nat) (fun i => [(0, .slice p n c), (3, .int .i64 (i : Int))])
    (fun i H' => H' = H ∧ i ≤ n ∧ ∀ k h, k < i → l[k]? = some h → 0 ≤ h ∧ h ≤ 255) (fun i => n - i) 0 ?_ ?_ ?_
  · exact ⟨rfl, rfl, trivial⟩
  · exact ⟨rfl, by simp, by simp⟩
  rintro i E H ⟨rfl, k1, k2⟩
  (conv => whnf)
  refine ifP.mk (fun hlt => ?_) (fun hge => ?_)
  · (conv => whnf)
    obtain ⟨x, hx⟩ : ∃ x, l[i]? = some x := ⟨l[i], by simp⟩
    have hm := List.mem_of_getElem? hx
    (repeat (first | (refine numP.mk ?_ ?_; exact fN; conv => whnf) | ((first | apply loadP_get | apply loadP_agg' | apply storeP_getR); exact atT; rfl; conv => whnf) | ((first | apply loadP_cells0 | apply loadP_cellsA | apply idxP_sl); (first | exact ceC | exact slC); (first | rfl | assumption); (try intro _ _ _); conv => whnf) | (apply loadP_cells; exact ceC; rfl; conv => whnf)))
    refine callP_fn (s91 hB (fun b1 b2 => ?_) (fun b1 => ?_))
    · (conv => whnf)
      (repeat (first | (refine numP.mk ?_ ?_; exact fN; conv => whnf) | ((first | apply loadP_get | apply loadP_agg' | apply storeP_getR); exact atT; rfl; conv => whnf) | ((first | apply loadP_cells0 | apply loadP_cellsA | apply idxP_sl); (first | exact ceC | exact slC); (first | rfl | assumption); (try intro _ _ _); conv => whnf) | (apply loadP_cells; exact ceC; rfl; conv => whnf)))
      refine ⟨i + 1, ⟨rfl, rfl, trivial⟩, ⟨rfl, by omega, ?_⟩, by omega⟩
      intro k h hk hh
      by_cases hki : k = i
      · subst hki; rw [hx] at hh; cases hh; exact ⟨b1, b2⟩
      · exact k2 k h (by omega) hh
    · (conv => whnf)
      exact h2 (fun hk => b1 (hk.all x hm)) _ (by decide)
  · (conv => whnf)
    refine h1 ⟨by omega, fun h hh => ?_⟩
    obtain ⟨k, hk1, hk2⟩ := List.getElem_of_mem hh
    exact k2 k h (by omega) (by rw [List.getElem?_eq_getElem hk1, hk2])

/-- What CheckSeats asks. -/
structure CallOk (s : Stn) (call len : Int) (n : Nat) (l : List Int) : Prop where
  stn : StnOk s
  call : 0 ≤ call ∧ call ≤ 100
  len : 1 ≤ len ∧ len ≤ 40
  seats : SeatsOk n l

theorem s10 {s : Stn} {call len : Int} {p : Option Addr} {n c : Nat} {l : List Int} {H : Heap} {R : Value → Heap → Prop} (hs : StnAt H s) (hl : SlP H 1 encI p n l)
    (h1 : ∀ H', Ext H H' → CallOk s call len n l → R (.int .i64 0) H') (h2 : ∀ H' e, Ext H H' → e ≠ 0 → R (.int .i64 e) H') :
    ACall AP B (.fn 10) [.agg ⟨encSt s⟩, .int .i64 call, .slice p n c, .int .i64 len] H R := by
  (refine run_fn hB (a := a10) ap10 (by decide +kernel) rfl (by decide) ?_; conv => whnf)
  (repeat (first | (refine numP.mk ?_ ?_; exact fN; conv => whnf) | ((first | apply loadP_get | apply loadP_agg' | apply storeP_getR); exact atT; rfl; conv => whnf) | ((first | apply loadP_cells0 | apply loadP_cellsA | apply idxP_sl); (first | exact ceC | exact slC); (first | rfl | assumption); (try intro _ _ _); conv => whnf) | (apply loadP_cells; exact ceC; rfl; conv => whnf)))
  refine callP_fn ?_
  refine s41 (s := s) hB (hs.ext (Ext.refl _).push) (fun H' e ok => ?_) (fun H' e ok => ?_)
  rotate_left
  · (conv => whnf)
    (repeat (first | (refine numP.mk ?_ ?_; exact fN; conv => whnf) | ((first | apply loadP_get | apply loadP_agg' | apply storeP_getR); exact atT; rfl; conv => whnf) | ((first | apply loadP_cells0 | apply loadP_cellsA | apply idxP_sl); (first | exact ceC | exact slC); (first | rfl | assumption); (try intro _ _ _); conv => whnf) | (apply loadP_cells; exact ceC; rfl; conv => whnf)))
    refine ifP.mk (fun a1 => ?_) (fun a1 => ?_)
    · (conv => whnf)
      exact h2 _ _ ((Ext.refl _).push.trans e) (by decide)
    · exact absurd (by decide) a1
  (conv => whnf)
  (repeat (first | (refine numP.mk ?_ ?_; exact fN; conv => whnf) | ((first | apply loadP_get | apply loadP_agg' | apply storeP_getR); exact atT; rfl; conv => whnf) | ((first | apply loadP_cells0 | apply loadP_cellsA | apply idxP_sl); (first | exact ceC | exact slC); (first | rfl | assumption); (try intro _ _ _); conv => whnf) | (apply loadP_cells; exact ceC; rfl; conv => whnf)))
  refine ifP.mk (fun a1 => ?_) (fun _ => ?_)
  · exact absurd rfl a1
  (conv => whnf)
  refine callP_fn (s42 hB (fun a2 a3 => ?_) (fun a2 => ?_))
  rotate_left
  · (conv => whnf)
    exact h2 _ _ ((Ext.refl _).push.trans e) (by decide)
  (conv => whnf)
  refine callP_fn (s42 hB (fun a4 a5 => ?_) (fun a4 => ?_))
  rotate_left
  · (conv => whnf)
    exact h2 _ _ ((Ext.refl _).push.trans e) (by decide)
  (conv => whnf)
  refine callP_fn (s43 hB (hl.ext ((Ext.refl _).push.trans e)) (fun a6 => ?_) (fun a6 er a7 => ?_))
  · (conv => whnf)
    exact h1 _ ((Ext.refl _).push.trans e) ⟨ok, ⟨a2, a3⟩, ⟨a4, a5⟩, a6⟩
  · (conv => whnf)
    exact h2 _ _ ((Ext.refl _).push.trans e) a7

end LV
namespace LV
open Go Ab
set_option maxRecDepth 100000

structure Pg where
  tick : Int
  hand : Int
  kind : Int

def encP (x : Pg) : List Value := [.int .i64 x.tick, .int .i64 x.hand, .int .i64 x.kind]

structure PgOk (hands : Int) (x : Pg) : Prop where
  tick : -200 ≤ x.tick ∧ x.tick ≤ 400
  hand : 0 ≤ x.hand ∧ x.hand ≤ hands - 1
  kind : 1 ≤ x.kind ∧ x.kind ≤ 3

structure PagesOk (hands : Int) (n : Nat) (l : List Pg) (at' : Int) : Prop where
  many : 1 ≤ hands ∧ hands ≤ 10
  tick : -200 ≤ at' ∧ at' ≤ 400
  len : n ≤ 200
  all : ∀ (i : Nat) x, l[i]? = some x → PgOk hands x
  sorted : ∀ (i : Nat) x y, l[i]? = some x → l[i + 1]? = some y → x.tick ≤ y.tick

theorem idxP_slj {α : Type} {H : Heap} {esz n c : Nat} {enc : α → List Value} {p : Option Addr} {l : List α} {i : Nat} {x : α} {j : Int} {K : Value → Prop} (hj : j = (i : Int)) (h : SlP H esz enc p n l) (hx : l[i]? = some x) (k : ∀ b o, Cells H b (o + i * esz) (enc x) → K (.pointer (some ⟨b, o + i * esz, none⟩))) : idxP none esz (.slice p n c) (.int .i64 j) K := by
  subst hj
  exact idxP_sl h hx k

variable {B : CallPred} (hB : BaseMono B)
include hB

theorem s11 {hands tick : Int} {p : Option Addr} {n c : Nat} {l : List Pg} {H : Heap} {R : Value → Heap → Prop} (hl : SlP H 3 encP p n l)
    (h1 : PagesOk hands n l tick → R (.int .i64 0) H) (h2 : ∀ e, e ≠ 0 → R (.int .i64 e) H) :
    ACall AP B (.fn 11) [.int .i64 hands, .slice p n c, .int .i64 tick] H R := by
  have hlen := hl.len
  (refine run_fn hB (a := a11) ap11 (by decide +kernel) rfl (by decide) ?_; conv => whnf)
  refine callP_fn (s42 hB (fun a1 a2 => ?_) (fun a1 => ?_))
  rotate_left
  · (conv => whnf)
    exact h2 _ (by decide)
  (conv => whnf)
  refine callP_fn (s44 hB (fun a3 a4 => ?_) (fun a3 => ?_))
  rotate_left
  · (conv => whnf)
    exact h2 _ (by decide)
  (conv => whnf)
  refine ifP.mk (fun a5 => ?_) (fun a5 => ?_)
  · (conv => whnf)
    exact h2 _ (by decide)
  (conv => whnf)
  refine loop_pins (CallMono.acall hB) (σ := Nat) (fun i => [(0, .int .i64 hands), (1, .slice p n c), (7, .int .i64 (i : Int))])
    (fun i H' => H' = H ∧ i ≤ n ∧ (∀ k x, k < i → l[k]? = some x → PgOk hands x) ∧ (∀ k x y, k + 1 < i → l[k]? = some x → l[k + 1]? = some y → x.tick ≤ y.tick)) (fun i => n - i) 0 ?_ ?_ ?_
  · exact ⟨rfl, rfl, rfl, trivial⟩
  · exact ⟨rfl, by simp, by simp, by simp⟩
  rintro i E H ⟨rfl, k1, k2, k3⟩
  (conv => whnf)
  refine ifP.mk (fun hlt => ?_) (fun hge => ?_)
  · (conv => whnf)
    obtain ⟨x, hx⟩ : ∃ x, l[i]? = some x := ⟨l[i], by simp⟩
    (repeat (first | (refine numP.mk ?_ ?_; exact fN; conv => whnf) | ((first | apply loadP_get | apply loadP_agg' | apply storeP_getR); exact atT; rfl; conv => whnf) | ((first | apply loadP_cells0 | apply loadP_cellsA | apply idxP_sl); (first | exact ceC | exact slC); (first | rfl | assumption); (try intro _ _ _); conv => whnf) | (apply loadP_cells; exact ceC; rfl; conv => whnf)))
    refine callP_fn (s44 hB (fun b1 b2 => ?_) (fun b1 => ?_))
    rotate_left
    · (conv => whnf)
      exact h2 _ (by decide)
    (conv => whnf)
    (repeat (first | (refine numP.mk ?_ ?_; exact fN; conv => whnf) | ((first | apply loadP_get | apply loadP_agg' | apply storeP_getR); exact atT; rfl; conv => whnf) | ((first | apply loadP_cells0 | apply loadP_cellsA | apply idxP_sl); (first | exact ceC | exact slC); (first | rfl | assumption); (try intro _ _ _); conv => whnf) | (apply loadP_cells; exact ceC; rfl; conv => whnf)))
    refine callP_fn (s42 hB (fun b3 b4 => ?_) (fun b3 => ?_))
    rotate_left
    · (conv => whnf)
      exact h2 _ (by decide)
    (conv => whnf)
    (repeat (first | (refine numP.mk ?_ ?_; exact fN; conv => whnf) | ((first | apply loadP_get | apply loadP_agg' | apply storeP_getR); exact atT; rfl; conv => whnf) | ((first | apply loadP_cells0 | apply loadP_cellsA | apply idxP_sl); (first | exact ceC | exact slC); (first | rfl | assumption); (try intro _ _ _); conv => whnf) | (apply loadP_cells; exact ceC; rfl; conv => whnf)))
    refine callP_fn (s42 hB (fun b5 b6 => ?_) (fun b5 => ?_))
    rotate_left
    · (conv => whnf)
      exact h2 _ (by decide)
    (conv => whnf)
    have hok : PgOk hands x := ⟨⟨b1, b2⟩, ⟨b3, b4⟩, ⟨b5, b6⟩⟩
    have hall : ∀ k y, k < i + 1 → l[k]? = some y → PgOk hands y := by
      intro k y hk hy
      by_cases hki : k = i
      · subst hki; rw [hx] at hy; cases hy; exact hok
      · exact k2 k y (by omega) hy
    refine ifP.mk (fun b7 => ?_) (fun b7 => ?_)
    · (conv => whnf)
      (repeat (first | (refine numP.mk ?_ ?_; exact fN; conv => whnf) | ((first | apply loadP_get | apply loadP_agg' | apply storeP_getR); exact atT; rfl; conv => whnf) | ((first | apply loadP_cells0 | apply loadP_cellsA | apply idxP_sl); (first | exact ceC | exact slC); (first | rfl | assumption); (try intro _ _ _); conv => whnf) | (apply loadP_cells; exact ceC; rfl; conv => whnf)))
      obtain ⟨y, hy⟩ : ∃ y, l[i - 1]? = some y := ⟨l[i - 1], by simp⟩
      refine idxP_slj (i := i - 1) (by omega) hl hy fun b o hc => ?_
      (conv => whnf)
      (repeat (first | (refine numP.mk ?_ ?_; exact fN; conv => whnf) | ((first | apply loadP_get | apply loadP_agg' | apply storeP_getR); exact atT; rfl; conv => whnf) | ((first | apply loadP_cells0 | apply loadP_cellsA | apply idxP_sl); (first | exact ceC | exact slC); (first | rfl | assumption); (try intro _ _ _); conv => whnf) | (apply loadP_cells; exact ceC; rfl; conv => whnf)))
      refine ifP.mk (fun b8 => ?_) (fun b8 => ?_)
      · (conv => whnf)
        exact h2 _ (by decide)
      (conv => whnf)
      (repeat (first | (refine numP.mk ?_ ?_; exact fN; conv => whnf) | ((first | apply loadP_get | apply loadP_agg' | apply storeP_getR); exact atT; rfl; conv => whnf) | ((first | apply loadP_cells0 | apply loadP_cellsA | apply idxP_sl); (first | exact ceC | exact slC); (first | rfl | assumption); (try intro _ _ _); conv => whnf) | (apply loadP_cells; exact ceC; rfl; conv => whnf)))
      refine ⟨i + 1, ⟨rfl, rfl, rfl, trivial⟩, ⟨rfl, by omega, hall, ?_⟩, by omega⟩
      intro k u v hk hu hv
      by_cases hki : k + 1 = i
      · have hk2 : k = i - 1 := by omega
        subst hk2
        rw [hy] at hu; cases hu
        rw [show i - 1 + 1 = i by omega, hx] at hv; cases hv
        omega
      · exact k3 k u v (by omega) hu hv
    · (conv => whnf)
      (repeat (first | (refine numP.mk ?_ ?_; exact fN; conv => whnf) | ((first | apply loadP_get | apply loadP_agg' | apply storeP_getR); exact atT; rfl; conv => whnf) | ((first | apply loadP_cells0 | apply loadP_cellsA | apply idxP_sl); (first | exact ceC | exact slC); (first | rfl | assumption); (try intro _ _ _); conv => whnf) | (apply loadP_cells; exact ceC; rfl; conv => whnf)))
      refine ⟨i + 1, ⟨rfl, rfl, rfl, trivial⟩, ⟨rfl, by omega, hall, ?_⟩, by omega⟩
      intro k u v hk hu hv
      exact k3 k u v (by omega) hu hv
  · (conv => whnf)
    have hin : i = n := by omega
    subst hin
    refine h1 ⟨⟨a1, a2⟩, ⟨a3, a4⟩, by omega, fun k x hx => k2 k x (by rw [hlen]; exact (List.getElem?_eq_some_iff.1 hx).1) hx, fun k x y hx hy => k3 k x y (by rw [hlen]; exact (List.getElem?_eq_some_iff.1 hy).1) hx hy⟩

/-- What a call back of numbers answers. -/
def Asks (B : CallPred) (g : FuncId) (first captured : List Value) (P : Int → Prop) : Prop :=
  ∀ (x : Int) (H : Heap) (R : Value → Heap → Prop), (P x → R (.bool true) H) → (¬ P x → R (.bool false) H) → ACall AP B (.fn g) (first ++ [.int .i64 x] ++ captured) H R

theorem s207 {g : FuncId} {first captured : List Value} {P : Int → Prop} (hg : Asks B g first captured P) {p : Option Addr} {n c : Nat} {l : List Int} {H : Heap} {R : Value → Heap → Prop} (hl : SlP H 1 encI p n l) (hn : n < 1000000)
    (h1 : ∀ (i : Nat) x, l[i]? = some x → P x → R (.int .i64 (i : Int)) H) (h2 : (∀ x ∈ l, ¬ P x) → R (.int .i64 (-1)) H) :
    ACall AP B (.fn 207) [.slice p n c, .func (.func g) ⟨first⟩ ⟨captured⟩] H R := by
  have hlen := hl.len
  (refine run_fn hB (a := a207) ap207 (by decide +kernel) rfl (by decide) ?_; conv => whnf)
  refine loop_pins (CallMono.acall hB) (σ := Nat) (fun i => [(0, .slice p n c), (1, .func (.func g) ⟨first⟩ ⟨captured⟩), (7, .int .i64 (n : Int)), (8, .int .i64 (i : Int))])
    (fun i H' => H' = H ∧ i ≤ n ∧ ∀ k x, k < i → l[k]? = some x → ¬ P x) (fun i => n - i) 0 ?_ ?_ ?_
  · exact ⟨rfl, rfl, rfl, rfl, trivial⟩
  · exact ⟨rfl, by simp, by simp⟩
  rintro i E H ⟨rfl, k1, k2⟩
  (conv => whnf)
  refine ifP.mk (fun hlt => ?_) (fun hge => ?_)
  · (conv => whnf)
    obtain ⟨x, hx⟩ : ∃ x, l[i]? = some x := ⟨l[i], by simp⟩
    (repeat (first | (refine numP.mk ?_ ?_; exact fN; conv => whnf) | ((first | apply loadP_get | apply loadP_agg' | apply storeP_getR); exact atT; rfl; conv => whnf) | ((first | apply loadP_cells0 | apply loadP_cellsA | apply idxP_sl); (first | exact ceC | exact slC); (first | rfl | assumption); (try intro _ _ _); conv => whnf) | (apply loadP_cells; exact ceC; rfl; conv => whnf)))
    refine callP_fn ?_
    refine hg x _ _ (fun b1 => ?_) (fun b1 => ?_)
    · (conv => whnf)
      exact h1 i x hx b1
    · (conv => whnf)
      (repeat (first | (refine numP.mk ?_ ?_; exact fN; conv => whnf) | ((first | apply loadP_get | apply loadP_agg' | apply storeP_getR); exact atT; rfl; conv => whnf) | ((first | apply loadP_cells0 | apply loadP_cellsA | apply idxP_sl); (first | exact ceC | exact slC); (first | rfl | assumption); (try intro _ _ _); conv => whnf) | (apply loadP_cells; exact ceC; rfl; conv => whnf)))
      refine ⟨i + 1, ⟨rfl, rfl, rfl, rfl, trivial⟩, ⟨rfl, by omega, ?_⟩, by omega⟩
      intro k y hk hy
      by_cases hki : k = i
      · subst hki; rw [hx] at hy; cases hy; exact b1
      · exact k2 k y (by omega) hy
  · (conv => whnf)
    refine h2 fun x hm => ?_
    obtain ⟨k, hk1, hk2⟩ := List.getElem_of_mem hm
    exact k2 k x (by omega) (by rw [List.getElem?_eq_getElem hk1, hk2])

theorem s158 {g : FuncId} {first captured : List Value} {P : Int → Prop} (hg : Asks B g first captured P) {p : Option Addr} {n c : Nat} {l : List Int} {H : Heap} {R : Value → Heap → Prop} (hl : SlP H 1 encI p n l) (hn : n < 1000000)
    (h1 : (∃ x ∈ l, P x) → R (.bool true) H) (h2 : (∀ x ∈ l, ¬ P x) → R (.bool false) H) :
    ACall AP B (.fn 158) [.slice p n c, .func (.func g) ⟨first⟩ ⟨captured⟩] H R := by
  (refine run_fn hB (a := a158) ap158 (by decide +kernel) rfl (by decide) ?_; conv => whnf)
  refine callP_fn ?_
  refine s207 hB hg hl hn (fun i x hx hp => ?_) (fun ha => ?_)
  · (conv => whnf)
    refine ifP.mk (fun b7 => ?_) (fun b7 => ?_)
    · (conv => whnf)
      exact h1 ⟨x, List.mem_of_getElem? hx, hp⟩
    · omega
  · (conv => whnf)
    refine ifP.mk (fun b7 => ?_) (fun b7 => ?_)
    · omega
    · (conv => whnf)
      exact h2 ha

theorem s161 : Asks B 161 [] [] fun x => ¬ (-200 ≤ x ∧ x ≤ 400) := by
  intro x H R h1 h2
  show ACall AP B (.fn 161) [.int .i64 x] H R
  (refine run_fn hB (a := a161) ap161 (by decide +kernel) rfl (by decide) ?_; conv => whnf)
  refine callP_fn (s105 hB (fun a1 a2 => ?_) (fun a1 => ?_))
  · (conv => whnf)
    exact h2 fun h => h ⟨a1, a2⟩
  · (conv => whnf)
    exact h1 a1

theorem s104 {hands many t : Int} {p : Option Addr} {c : Nat} {H : Heap} {R : Value → Heap → Prop} (hl : SlP H 1 encI p 1 [t]) (h1 : 1 ≤ hands ∧ hands ≤ 10) (h2 : many ≤ 200) (h3 : -200 ≤ t ∧ t ≤ 400) (hr : R (.int .i64 0) H) :
    ACall AP B (.fn 104) [.int .i64 hands, .int .i64 many, .slice p 1 c] H R := by
  (refine run_fn hB (a := a104) ap104 (by decide +kernel) rfl (by decide) ?_; conv => whnf)
  refine callP_fn (s53 hB (fun a1 a2 => ?_) (fun a1 => ?_))
  rotate_left
  · exact absurd h1 a1
  (conv => whnf)
  refine callP_fn ?_
  refine s158 hB (s161 hB) hl (by decide) (fun ⟨x, hx, hp⟩ => ?_) (fun _ => ?_)
  · simp at hx; subst hx; exact absurd h3 hp
  (conv => whnf)
  refine ifP.mk (fun b7 => ?_) (fun b7 => ?_)
  · omega
  (conv => whnf)
  exact hr

theorem s51 {hands tick : Int} {p : Option Addr} {n c : Nat} {l : List Pg} {H : Heap} {R : Value → Heap → Prop} (hl : SlP H 3 encP p n l) (hk : PagesOk hands n l tick)
    (h1 : ∀ H', Ext H H' → R (.int .i64 0) H') :
    ACall AP B (.fn 51) [.int .i64 hands, .slice p n c, .int .i64 tick] H R := by
  have hlen := hl.len
  (refine run_fn hB (a := a51) ap51 (by decide +kernel) rfl (by decide) ?_; conv => whnf)
  refine callP_fn ?_
  refine s104 hB (t := tick) ?_ hk.many (by have := hk.len; omega) hk.tick ?_
  · refine ⟨rfl, by simp [encI], fun i x hx => ?_⟩
    have hi : i = 0 := by have := (List.getElem?_eq_some_iff.1 hx).1; simp at this; exact this
    subst hi
    simp at hx; subst hx
    exact ⟨H.size, 0, rfl, _, _, _, At.self, Nat.le_of_ble_eq_true rfl, rfl⟩
  (conv => whnf)
  refine ifP.mk (fun a1 => absurd rfl a1) (fun _ => ?_)
  (conv => whnf)
  generalize hH : H.push _ = H1
  have hE : Ext H H1 := by rw [← hH]; exact exT
  refine loop_pins (CallMono.acall hB) (σ := Nat × Int) (fun s => [(0, .int .i64 hands), (8, .int .i64 s.2), (20, .slice p n c), (21, .int .i64 (n : Int)), (22, .int .i64 (s.1 : Int))])
    (fun s H' => Ext H1 H' ∧ s.1 ≤ n ∧ ∀ x, l[s.1]? = some x → s.2 ≤ x.tick) (fun s => n - s.1) (0, -200) ?_ ?_ ?_
  · exact ⟨rfl, rfl, rfl, rfl, rfl, trivial⟩
  · exact ⟨Ext.refl _, by simp, fun x hx => (hk.all 0 x hx).tick.1⟩
  rintro ⟨i, last⟩ E H' ⟨hE1, k1, k2⟩
  dsimp only at k1 k2
  have hE2 := hE.trans hE1
  (conv => whnf)
  refine ifP.mk (fun hlt => ?_) (fun hge => ?_)
  · (conv => whnf)
    obtain ⟨x, hx⟩ : ∃ x, l[i]? = some x := ⟨l[i], by simp⟩
    have ok := hk.all i x hx
    have hl' := hl.ext hE2
    have hm := hk.many
    have hnn := hk.len
    (repeat (first | (refine numP.mk ?_ ?_; exact fN; conv => whnf) | ((first | apply loadP_get | apply loadP_agg' | apply storeP_getR); exact atT; rfl; conv => whnf) | ((first | apply loadP_cells0 | apply loadP_cellsA | apply idxP_sl); (first | exact ceC | exact slC); (first | rfl | assumption); (try intro _ _ _); conv => whnf) | (apply loadP_cells; exact ceC; rfl; conv => whnf)))
    refine callP_fn (s53 hB (fun _ _ => ?_) (fun a1 => absurd ok.hand a1))
    (conv => whnf)
    (repeat (first | (refine numP.mk ?_ ?_; exact fN; conv => whnf) | ((first | apply loadP_get | apply loadP_agg' | apply storeP_getR); exact atT; rfl; conv => whnf) | ((first | apply loadP_cells0 | apply loadP_cellsA | apply idxP_sl); (first | exact ceC | exact slC); (first | rfl | assumption); (try intro _ _ _); conv => whnf) | (apply loadP_cells; exact ceC; rfl; conv => whnf)))
    refine callP_fn (s53 hB (fun _ _ => ?_) (fun a1 => absurd ok.kind a1))
    (conv => whnf)
    (repeat (first | (refine numP.mk ?_ ?_; exact fN; conv => whnf) | ((first | apply loadP_get | apply loadP_agg' | apply storeP_getR); exact atT; rfl; conv => whnf) | ((first | apply loadP_cells0 | apply loadP_cellsA | apply idxP_sl); (first | exact ceC | exact slC); (first | rfl | assumption); (try intro _ _ _); conv => whnf) | (apply loadP_cells; exact ceC; rfl; conv => whnf)))
    refine callP_fn (s105 hB (fun _ _ => ?_) (fun a1 => absurd ok.tick a1))
    (conv => whnf)
    (repeat (first | (refine numP.mk ?_ ?_; exact fN; conv => whnf) | ((first | apply loadP_get | apply loadP_agg' | apply storeP_getR); exact atT; rfl; conv => whnf) | ((first | apply loadP_cells0 | apply loadP_cellsA | apply idxP_sl); (first | exact ceC | exact slC); (first | rfl | assumption); (try intro _ _ _); conv => whnf) | (apply loadP_cells; exact ceC; rfl; conv => whnf)))
    refine ifP.mk (fun a1 => ?_) (fun _ => ?_)
    · have : last ≤ x.tick := k2 x hx
      have a1 : x.tick < last := a1
      omega
    (conv => whnf)
    (repeat (first | (refine numP.mk ?_ ?_; exact fN; conv => whnf) | ((first | apply loadP_get | apply loadP_agg' | apply storeP_getR); exact atT; rfl; conv => whnf) | ((first | apply loadP_cells0 | apply loadP_cellsA | apply idxP_sl); (first | exact ceC | exact slC); (first | rfl | assumption); (try intro _ _ _); conv => whnf) | (apply loadP_cells; exact ceC; rfl; conv => whnf)))
    refine ⟨(i + 1, x.tick), ⟨rfl, rfl, rfl, rfl, rfl, trivial⟩, ⟨?_, by show i + 1 ≤ n; omega, fun y hy => hk.sorted i x y hx hy⟩, by show n - (i + 1) < n - i; omega⟩
    exact exT
  · (conv => whnf)
    exact h1 _ hE2
end LV
