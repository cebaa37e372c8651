/- Part of the proof of this claim: text W6. -/
import Derived.Test.YtfcpgeanbklleaaGreatDoorW5
set_option linter.unusedSectionVars false
set_option linter.unusedSimpArgs false
set_option linter.unusedVariables false
namespace LV
open Go Ab
set_option maxRecDepth 100000

theorem LogOk.mem : ∀ {l : List (Int × Int)} {last : Int}, LogOk last l → -201 ≤ last → ∀ s ∈ l, -200 ≤ s.1 ∧ s.1 ≤ s.2 ∧ s.2 < 0
  | [], _, _, _, s, hs => by simp at hs
  | x :: l, last, h, hl, s, hs => by
    simp only [LogOk] at h
    rcases List.mem_cons.1 hs with rfl | hs
    · exact ⟨by omega, h.2.1, h.2.2.1⟩
    · exact LogOk.mem h.2.2.2 (by omega) s hs

/-- The cells of a duty. -/
def IsB (C : List Value) : Prop := C.length = 1800 ∧ ∀ v ∈ C, ∃ b, v = .bool b

theorem IsB.set {C : List Value} (h : IsB C) (i : Nat) (b : Bool) : IsB (C.set i (.bool b)) := by
  refine ⟨by simp [h.1], fun v hv => ?_⟩
  rcases List.mem_or_eq_of_mem_set hv with h1 | h1
  · exact h.2 v h1
  · exact ⟨b, h1⟩

theorem IsB.get {C : List Value} (h : IsB C) {i : Nat} (hi : i < 1800) : ∃ b, C[i]? = some (.bool b) := by
  have h1 : i < C.length := by rw [h.1]; exact hi
  obtain ⟨b, hb⟩ := h.2 _ (List.getElem_mem h1)
  exact ⟨b, by rw [List.getElem?_eq_getElem h1, hb]⟩

def isBoolV : Value → Bool
  | .bool _ => true
  | _ => false

theorem isB_of {C : List Value} (h : (Nat.beq C.length 1800 && C.all isBoolV) = true) : IsB C := by
  simp only [Bool.and_eq_true, List.all_eq_true] at h
  refine ⟨Nat.eq_of_beq_eq_true h.1, fun v hv => ?_⟩
  have := h.2 v hv
  cases v <;> simp [isBoolV] at this
  exact ⟨_, rfl⟩

variable {B : CallPred} (hB : BaseMono B)
include hB

theorem s181 {p : Option Addr} {n c : Nat} {l : List (Int × Int)} {H : Heap} {R : Value → Heap → Prop} (hl : SlP H 2 encS p n l) (hok : LogOk (-201) l) (hn : n ≤ 10) (h1 : ∀ H', Ext H H' → R (.bool true) H') :
    ACall AP B (.fn 181) [.slice p n c] H R := by
  have hlen := hl.len
  (refine run_fn hB (a := a181) ap181 (by decide +kernel) rfl (by decide) ?_; conv => whnf)
  refine loop_pins (CallMono.acall hB) (σ := Nat × Int) (fun s => [(0, .slice p n c), (3, .int .i64 s.2), (6, .slice p n c), (7, .int .i64 (n : Int)), (8, .int .i64 (s.1 : Int))])
    (fun s H' => Ext H H' ∧ s.1 ≤ n ∧ LogOk s.2 (l.drop s.1)) (fun s => n - s.1) (0, -201) ?_ ?_ ?_
  · exact ⟨rfl, rfl, rfl, rfl, rfl, trivial⟩
  · exact ⟨Ext.refl _, by simp, by simpa using hok⟩
  rintro ⟨i, last⟩ E H' ⟨e1, k1, k2⟩
  dsimp only at k1 k2
  (conv => whnf)
  refine ifP.mk (fun hlt => ?_) (fun hge => ?_)
  · (conv => whnf)
    obtain ⟨x, hx⟩ : ∃ x, l[i]? = some x := ⟨l[i], by simp⟩
    have hl' := hl.ext e1
    have hs : l.drop i = x :: l.drop (i + 1) := by
      have hi := (List.getElem?_eq_some_iff.1 hx)
      rw [List.drop_eq_getElem_cons hi.1, hi.2]
    rw [hs] at k2
    simp only [LogOk] at k2
    (repeat (first | (refine numP.mk ?_ ?_; exact fN; conv => whnf) | ((first | apply loadP_get | apply loadP_agg' | apply storeP_getR); exact atT; rfl; conv => whnf) | ((first | apply loadP_cells0 | apply loadP_cellsA | apply idxP_sl); (first | exact ceC | exact slC); (first | rfl | assumption); (try intro _ _ _); conv => whnf) | (apply loadP_cells; exact ceC; rfl; conv => whnf)))
    refine ifP.mk (fun a1 => ?_) (fun _ => ?_)
    · have a1 : x.1 ≤ last := a1
      omega
    (conv => whnf)
    (repeat (first | (refine numP.mk ?_ ?_; exact fN; conv => whnf) | ((first | apply loadP_get | apply loadP_agg' | apply storeP_getR); exact atT; rfl; conv => whnf) | ((first | apply loadP_cells0 | apply loadP_cellsA | apply idxP_sl); (first | exact ceC | exact slC); (first | rfl | assumption); (try intro _ _ _); conv => whnf) | (apply loadP_cells; exact ceC; rfl; conv => whnf)))
    refine ifP.mk (fun a1 => ?_) (fun _ => ?_)
    · have a1 : x.2 < x.1 := a1
      omega
    (conv => whnf)
    (repeat (first | (refine numP.mk ?_ ?_; exact fN; conv => whnf) | ((first | apply loadP_get | apply loadP_agg' | apply storeP_getR); exact atT; rfl; conv => whnf) | ((first | apply loadP_cells0 | apply loadP_cellsA | apply idxP_sl); (first | exact ceC | exact slC); (first | rfl | assumption); (try intro _ _ _); conv => whnf) | (apply loadP_cells; exact ceC; rfl; conv => whnf)))
    refine ifP.mk (fun a1 => ?_) (fun _ => ?_)
    · have a1 : 0 ≤ x.2 := a1
      omega
    (conv => whnf)
    (repeat (first | (refine numP.mk ?_ ?_; exact fN; conv => whnf) | ((first | apply loadP_get | apply loadP_agg' | apply storeP_getR); exact atT; rfl; conv => whnf) | ((first | apply loadP_cells0 | apply loadP_cellsA | apply idxP_sl); (first | exact ceC | exact slC); (first | rfl | assumption); (try intro _ _ _); conv => whnf) | (apply loadP_cells; exact ceC; rfl; conv => whnf)))
    exact ⟨(i + 1, x.2), ⟨rfl, rfl, rfl, rfl, rfl, trivial⟩, ⟨exT, by show i + 1 ≤ n; omega, k2.2.2.2⟩, by show n - (i + 1) < n - i; omega⟩
  · (conv => whnf)
    refine ifP.mk (fun a1 => ?_) (fun a1 => ?_)
    · (conv => whnf)
      exact h1 _ e1
    · omega

theorem s126 {s : Stn} {H : Heap} {R : Value → Heap → Prop} (hs : StnAt H s) (ok : StnOk s) (h1 : ∀ H', Ext H H' → R (.int .i64 0) H') :
    ACall AP B (.fn 126) [.agg ⟨encSt s⟩] H R := by
  have hl := hs.hands
  have hlen := hl.len
  have o1 := ok.len
  have o2 := ok.window
  have o3 := ok.duty
  (refine run_fn hB (a := a126) ap126 (by decide +kernel) rfl (by decide) ?_; conv => whnf)
  (repeat (first | (refine numP.mk ?_ ?_; exact fN; conv => whnf) | ((first | apply loadP_get | apply loadP_agg' | apply storeP_getR); exact atT; rfl; conv => whnf) | ((first | apply loadP_cells0 | apply loadP_cellsA | apply idxP_sl); (first | exact ceC | exact slC); (first | rfl | assumption); (try intro _ _ _); conv => whnf) | (apply loadP_cells; exact ceC; rfl; conv => whnf)))
  refine ifP.mk (fun a1 => ?_) (fun _ => ?_)
  · omega
  (conv => whnf)
  (repeat (first | (refine numP.mk ?_ ?_; exact fN; conv => whnf) | ((first | apply loadP_get | apply loadP_agg' | apply storeP_getR); exact atT; rfl; conv => whnf) | ((first | apply loadP_cells0 | apply loadP_cellsA | apply idxP_sl); (first | exact ceC | exact slC); (first | rfl | assumption); (try intro _ _ _); conv => whnf) | (apply loadP_cells; exact ceC; rfl; conv => whnf)))
  refine callP_fn (s53 hB (fun _ _ => ?_) (fun a1 => absurd o2 a1))
  (conv => whnf)
  (repeat (first | (refine numP.mk ?_ ?_; exact fN; conv => whnf) | ((first | apply loadP_get | apply loadP_agg' | apply storeP_getR); exact atT; rfl; conv => whnf) | ((first | apply loadP_cells0 | apply loadP_cellsA | apply idxP_sl); (first | exact ceC | exact slC); (first | rfl | assumption); (try intro _ _ _); conv => whnf) | (apply loadP_cells; exact ceC; rfl; conv => whnf)))
  refine callP_fn (s53 hB (fun _ _ => ?_) (fun a1 => absurd o3 a1))
  (conv => whnf)
  (repeat (first | (refine numP.mk ?_ ?_; exact fN; conv => whnf) | ((first | apply loadP_get | apply loadP_agg' | apply storeP_getR); exact atT; rfl; conv => whnf) | ((first | apply loadP_cells0 | apply loadP_cellsA | apply idxP_sl); (first | exact ceC | exact slC); (first | rfl | assumption); (try intro _ _ _); conv => whnf) | (apply loadP_cells; exact ceC; rfl; conv => whnf)))
  generalize hH : H.push _ = H1
  have hE : Ext H H1 := by rw [← hH]; exact exT
  have hA : At H1 H.size (.cells false 0 (encSt s)) := by rw [← hH]; exact At.self
  refine loop_pins (CallMono.acall hB) (σ := Nat) (fun i => [(24, .slice s.p s.n s.c), (25, .int .i64 (s.n : Int)), (26, .int .i64 (i : Int))])
    (fun i H' => Ext H1 H' ∧ i ≤ s.n) (fun i => s.n - i) 0 ?_ ?_ ?_
  · exact ⟨rfl, rfl, rfl, trivial⟩
  · exact ⟨Ext.refl _, by simp⟩
  rintro i E H' ⟨hE1, k1⟩
  have hE2 := hE.trans hE1
  (conv => whnf)
  refine ifP.mk (fun hlt => ?_) (fun hge => ?_)
  · (conv => whnf)
    obtain ⟨x, hx⟩ : ∃ x, s.hands[i]? = some x := ⟨s.hands[i], by simp⟩
    have hl' := hl.ext hE2
    have hm := List.mem_of_getElem? hx
    have hok := ok.hands x hm
    have p1 := hok.skills
    have p2 := hok.away
    have p3 := hok.len
    have p4 := hok.answer
    (repeat (first | (refine numP.mk ?_ ?_; exact fN; conv => whnf) | ((first | apply loadP_get | apply loadP_agg' | apply storeP_getR); exact atT; rfl; conv => whnf) | ((first | apply loadP_cells0 | apply loadP_cellsA | apply idxP_sl); (first | exact ceC | exact slC); (first | rfl | assumption); (try intro _ _ _); conv => whnf) | (apply loadP_cells; exact ceC; rfl; conv => whnf)))
    refine callP_fn (s163 hB (fun _ _ => ?_) (fun a1 => absurd p1 a1))
    (conv => whnf)
    (repeat (first | (refine numP.mk ?_ ?_; exact fN; conv => whnf) | ((first | apply loadP_get | apply loadP_agg' | apply storeP_getR); exact atT; rfl; conv => whnf) | ((first | apply loadP_cells0 | apply loadP_cellsA | apply idxP_sl); (first | exact ceC | exact slC); (first | rfl | assumption); (try intro _ _ _); conv => whnf) | (apply loadP_cells; exact ceC; rfl; conv => whnf)))
    refine ifP.mk (fun (a1 : x.lo < 0) => ?_) (fun _ => ?_)
    · omega
    (conv => whnf)
    (repeat (first | (refine numP.mk ?_ ?_; exact fN; conv => whnf) | ((first | apply loadP_get | apply loadP_agg' | apply storeP_getR); exact atT; rfl; conv => whnf) | ((first | apply loadP_cells0 | apply loadP_cellsA | apply idxP_sl); (first | exact ceC | exact slC); (first | rfl | assumption); (try intro _ _ _); conv => whnf) | (apply loadP_cells; exact ceC; rfl; conv => whnf)))
    refine ifP.mk (fun (a1 : x.hi < x.lo) => ?_) (fun _ => ?_)
    · omega
    (conv => whnf)
    (repeat (first | (refine numP.mk ?_ ?_; exact fN; conv => whnf) | ((first | apply loadP_get | apply loadP_agg' | apply storeP_getR); exact atT; rfl; conv => whnf) | ((first | apply loadP_cells0 | apply loadP_cellsA | apply idxP_sl); (first | exact ceC | exact slC); (first | rfl | assumption); (try intro _ _ _); conv => whnf) | (apply loadP_cells; exact ceC; rfl; conv => whnf)))
    refine ifP.mk (fun (a1 : 60 < x.hi) => ?_) (fun _ => ?_)
    · omega
    (conv => whnf)
    (repeat (first | (refine numP.mk ?_ ?_; exact fN; conv => whnf) | ((first | apply loadP_get | apply loadP_agg' | apply storeP_getR); exact atT; rfl; conv => whnf) | ((first | apply loadP_cells0 | apply loadP_cellsA | apply idxP_sl); (first | exact ceC | exact slC); (first | rfl | assumption); (try intro _ _ _); conv => whnf) | (apply loadP_cells; exact ceC; rfl; conv => whnf)))
    refine callP_fn ?_
    refine s181 hB (((hs.logs x hm).ext hE2).ext exT) hok.log p3 fun H3 e3 => ?_
    (conv => whnf)
    refine loadP_get (e3.at' _ _ atT) rfl ?_
    (conv => whnf)
    refine callP_fn (s53 hB (fun _ _ => ?_) (fun a1 => absurd p4 a1))
    (conv => whnf)
    (repeat (first | (refine numP.mk ?_ ?_; exact fN; conv => whnf) | ((first | apply loadP_get | apply loadP_agg' | apply storeP_getR); exact atT; rfl; conv => whnf) | ((first | apply loadP_cells0 | apply loadP_cellsA | apply idxP_sl); (first | exact ceC | exact slC); (first | rfl | assumption); (try intro _ _ _); conv => whnf) | (apply loadP_cells; exact ceC; rfl; conv => whnf)))
    exact ⟨i + 1, ⟨rfl, rfl, rfl, trivial⟩, ⟨hE1.trans (Ext.trans exT e3), by omega⟩, by omega⟩
  · (conv => whnf)
    exact h1 _ hE2

theorem s127 {h : Hd} {H : Heap} {R : Value → Heap → Prop} (hl : SlP H 2 encS h.p h.n h.log) (hok : HdOk h)
    (h1 : ∀ H' b C, Ext H H' → H.size ≤ b → At H' b (.cells false 0 C) → IsB C → R (.pointer (some ⟨b, 0, none⟩)) H') :
    ACall AP B (.fn 127) [.agg ⟨encH h⟩] H R := by
  have hlen := hl.len
  have hn := hok.len
  have hlog := hok.log.mem (by omega)
  (refine run_fn hB (a := a127) ap127 (by decide +kernel) rfl (by decide) ?_; conv => whnf)
  (repeat (first | (refine numP.mk ?_ ?_; exact fN; conv => whnf) | ((first | apply loadP_get | apply loadP_agg' | apply storeP_getR); exact atT; rfl; conv => whnf) | ((first | apply loadP_cells0 | apply loadP_cellsA | apply idxP_sl); (first | exact ceC | exact slC); (first | rfl | assumption); (try intro _ _ _); conv => whnf) | (apply loadP_cells; exact ceC; rfl; conv => whnf)))
  generalize hH : (H.push _).push _ = H1
  have hE : Ext H H1 := by rw [← hH]; exact exT
  have hC : ∃ C, At H1 (H.size + 1) (.cells false 0 C) ∧ IsB C := by
    rw [← hH]
    exact ⟨_, At.self, isB_of (by kernel_rfl)⟩
  refine loop_pins (CallMono.acall hB) (σ := Nat) (fun i => [(3, .pointer (some ⟨H.size + 1, 0, none⟩)), (10, .slice h.p h.n h.c), (11, .int .i64 (h.n : Int)), (12, .int .i64 (i : Int))])
    (fun i H' => Ext H H' ∧ i ≤ h.n ∧ ∃ C, At H' (H.size + 1) (.cells false 0 C) ∧ IsB C) (fun i => h.n - i) 0 ?_ ?_ ?_
  · exact ⟨rfl, rfl, rfl, rfl, trivial⟩
  · exact ⟨hE, by simp, hC⟩
  rintro i E H2 ⟨e2, k1, C, k2, k3⟩
  have hlt2 := k2.lt
  (conv => whnf)
  refine ifP.mk (fun hlt => ?_) (fun hge => ?_)
  · (conv => whnf)
    obtain ⟨x, hx⟩ : ∃ x, h.log[i]? = some x := ⟨h.log[i], by simp⟩
    have hl' := hl.ext e2
    have hm := hlog x (List.mem_of_getElem? hx)
    (repeat (first | (refine numP.mk ?_ ?_; exact fN; conv => whnf) | ((first | apply loadP_get | apply loadP_agg' | apply storeP_getR); exact atT; rfl; conv => whnf) | ((first | apply loadP_cells0 | apply loadP_cellsA | apply idxP_sl); (first | exact ceC | exact slC); (first | rfl | assumption); (try intro _ _ _); conv => whnf) | (apply loadP_cells; exact ceC; rfl; conv => whnf)))
    generalize hH3 : (H2.push _).set _ _ = H3
    have e3 : Ext H2 H3 := by rw [← hH3]; exact exT
    have a3 : At H3 H2.size (.cells false 0 (encS x)) := by rw [← hH3]; exact At.setSelf (by rw [Heap.size_push]; omega)
    refine loop_pins (CallMono.acall hB) (σ := Nat) (fun t => [(3, .pointer (some ⟨H.size + 1, 0, none⟩)), (5, .pointer (some ⟨H2.size, 0, none⟩)), (6, .int .i64 (x.1 + t)), (10, .slice h.p h.n h.c), (11, .int .i64 (h.n : Int)), (12, .int .i64 (i : Int))])
      (fun t H' => Ext H H' ∧ x.1 + t ≤ x.2 + 1 ∧ At H' H2.size (.cells false 0 (encS x)) ∧ ∃ C, At H' (H.size + 1) (.cells false 0 C) ∧ IsB C) (fun t => (x.2 + 1 - x.1 - t).toNat) 0 ?_ ?_ ?_
    · exact ⟨rfl, rfl, by simp [upd], rfl, rfl, rfl, trivial⟩
    · exact ⟨e2.trans e3, by simp; omega, a3, C, e3.at' _ _ k2, k3⟩
    rintro t E H4 ⟨e4, m1, m2, C4, m3, m4⟩
    have hlt4 := m2.lt
    (conv => whnf)
    (repeat (first | (refine numP.mk ?_ ?_; exact fN; conv => whnf) | ((first | apply loadP_get | apply loadP_agg' | apply storeP_getR); exact atT; rfl; conv => whnf) | ((first | apply loadP_cells0 | apply loadP_cellsA | apply idxP_sl); (first | exact ceC | exact slC); (first | rfl | assumption); (try intro _ _ _); conv => whnf) | (apply loadP_cells; exact ceC; rfl; conv => whnf)))
    refine ifP.mk (fun (b1 : x.1 + t ≤ x.2) => ?_) (fun (b1 : ¬ x.1 + t ≤ x.2) => ?_)
    · (conv => whnf)
      (repeat (first | (refine numP.mk ?_ ?_; exact fN; conv => whnf) | ((first | apply loadP_get | apply loadP_agg' | apply storeP_getR); exact atT; rfl; conv => whnf) | ((first | apply loadP_cells0 | apply loadP_cellsA | apply idxP_sl); (first | exact ceC | exact slC); (first | rfl | assumption); (try intro _ _ _); conv => whnf) | (apply loadP_cells; exact ceC; rfl; conv => whnf)))
      refine idxP_arr (by omega) (by omega) ?_
      (conv => whnf)
      refine storeP_get m3 rfl (by rw [m4.1]; omega) rfl ?_
      (conv => whnf)
      (repeat (first | (refine numP.mk ?_ ?_; exact fN; conv => whnf) | ((first | apply loadP_get | apply loadP_agg' | apply storeP_getR); exact atT; rfl; conv => whnf) | ((first | apply loadP_cells0 | apply loadP_cellsA | apply idxP_sl); (first | exact ceC | exact slC); (first | rfl | assumption); (try intro _ _ _); conv => whnf) | (apply loadP_cells; exact ceC; rfl; conv => whnf)))
      refine ⟨t + 1, ⟨rfl, rfl, ?_, rfl, rfl, rfl, trivial⟩, ⟨exT, by omega, atT, _, At.setSelf (by omega), m4.set _ _⟩, by omega⟩
      show Value.int .i64 (x.1 + t + 1) = .int .i64 (x.1 + ((t + 1 : Nat) : Int))
      congr 1; omega
    · (conv => whnf)
      (repeat (first | (refine numP.mk ?_ ?_; exact fN; conv => whnf) | ((first | apply loadP_get | apply loadP_agg' | apply storeP_getR); exact atT; rfl; conv => whnf) | ((first | apply loadP_cells0 | apply loadP_cellsA | apply idxP_sl); (first | exact ceC | exact slC); (first | rfl | assumption); (try intro _ _ _); conv => whnf) | (apply loadP_cells; exact ceC; rfl; conv => whnf)))
      exact ⟨i + 1, ⟨rfl, rfl, rfl, rfl, trivial⟩, ⟨e4, by omega, C4, m3, m4⟩, by omega⟩
  · (conv => whnf)
    exact h1 _ _ _ e2 (by omega) k2 k3
end LV
