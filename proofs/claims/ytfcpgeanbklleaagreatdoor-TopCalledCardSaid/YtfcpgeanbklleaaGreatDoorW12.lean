/- Part of the proof of this claim: text W12. -/
import Derived.Test.YtfcpgeanbklleaaGreatDoorW11
set_option linter.unusedSectionVars false
set_option linter.unusedSimpArgs false
set_option linter.unusedVariables false
namespace LV
open Go Ab
set_option maxRecDepth 100000
variable {B : CallPred} (hB : BaseMono B)
include hB

theorem s54 {s : Stn} {call len : Int} {p : Option Addr} {n c : Nat} {l : List Int} {H : Heap} {R : Value → Heap → Prop} (hs : StnAt H s) (hl : SlP H 1 encI p n l) (ok : CallOk s call len n l)
    (h1 : ∀ H1 H' bc br bk pl cl ds, Ext H H' → Ext H H1 → CalledAt H1 H' bc br bk s call len pl cl ds → R (.tuple ⟨[.pointer (some ⟨bc, 0, none⟩), .int .i64 0]⟩) H') :
    ACall AP B (.fn 54) [.agg ⟨encSt s⟩, .int .i64 call, .slice p n c, .int .i64 len] H R := by
  have hn := ok.stn.len
  (refine run_fn hB (a := a54) ap54 (by decide +kernel) rfl (by decide) ?_; conv => whnf)
  (repeat (first | (refine numP.mk ?_ ?_; exact fN; conv => whnf) | ((first | apply loadP_get | apply loadP_agg' | apply storeP_getR); exact atT; rfl; conv => whnf) | ((first | apply loadP_cells0 | apply loadP_cellsA | apply idxP_sl); (first | exact ceC | exact slC); (first | rfl | assumption); (try intro _ _ _); conv => whnf) | (apply loadP_cells; exact ceC; rfl; conv => whnf)))
  generalize hH : H.push _ = H1
  have e1 : Ext H H1 := by rw [← hH]; exact exT
  have hA : At H1 H.size (.cells false 0 (encSt s)) := by rw [← hH]; exact At.self
  refine callP_fn ?_
  refine s76 (s := s) hB (hs.ext e1) ok.stn fun H2 br pl cl ds e2 hbr ros => ?_
  have e02 := e1.trans e2
  (conv => whnf)
  refine ifP.mk (fun a1 => absurd rfl a1) (fun _ => ?_)
  (conv => whnf)
  refine callP_fn (s53 hB (fun _ _ => ?_) (fun a1 => absurd ok.call a1))
  (conv => whnf)
  refine callP_fn (s53 hB (fun _ _ => ?_) (fun a1 => absurd ok.len a1))
  (conv => whnf)
  have hA2 := e2.at' _ _ hA
  refine loadP_get hA2 rfl ?_
  (conv => whnf)
  refine makeP_ok (by omega) (by omega) (by omega) ?_
  (conv => whnf)
  generalize hH3 : (H2.push _).push _ = H3
  have e3 : Ext H2 H3 := by rw [← hH3]; exact exT
  have hK : KnownAt H3 H2.size s.n := by
    rw [← hH3]
    refine ⟨_, At.self.push, ?_, ?_⟩
    · simp [repl]
    · intro v hv
      simp only [repl, List.mem_flatten, List.mem_replicate] at hv
      obtain ⟨z, ⟨_, rfl⟩, hv⟩ := hv
      exact ⟨0, by simpa using hv⟩
  have hBx : At H3 (H2.size + 1) (.cells false 0 [.pointer (some ⟨br, 0, none⟩), .int .i64 call, .int .i64 len, .slice (some ⟨H2.size, 0, none⟩) s.n s.n]) := by
    rw [← hH3]
    exact At.self
  refine callP_fn ?_
  refine s106 hB (hl.ext (e02.trans e3)) ok.seats ?_
  (conv => whnf)
  refine ⟨rfl, ?_⟩
  (conv => whnf)
  refine ⟨rfl, ?_⟩
  (conv => whnf)
  refine ⟨rfl, ?_⟩
  (conv => whnf)
  exact h1 H2 H3 (H2.size + 1) br H2.size pl cl ds (e02.trans e3) e02 ⟨ros, e3, Nat.le_refl _, hBx, hK⟩

theorem s55 {H1 H : Heap} {bc br bk : Nat} {s : Stn} {call len : Int} {pl : Option Addr} {cl : Nat} {ds : List Nat} {ps : Option Addr} {ns cs : Nat} {seats : List Int} {R : Value → Heap → Prop} (hc : CalledAt H1 H bc br bk s call len pl cl ds) (hs : SlP H1 1 encI ps ns seats) (ok : CallOk s call len ns seats)
    (h1 : ∀ H' t p' m' c' w', (call ≤ t ∧ t ≤ call + 100) → Mod bk H H' → CalledAt H1 H' bc br bk s call len pl cl ds → SlP H' 1 encI p' m' w' → m' ≤ ns → WhoOk s w' → R (.tuple ⟨[.int .i64 t, .slice p' m' c', .bool true]⟩) H')
    (h2 : ∀ H', Mod bk H H' → R (.tuple ⟨[.int .i64 0, .slice none 0 0, .bool false]⟩) H') :
    ACall AP B (.fn 55) [.pointer (some ⟨bc, 0, none⟩), .slice ps ns cs] H R := by
  have hb := hc.box
  have hcl := ok.call
  (refine run_fn hB (a := a55) ap55 (by decide +kernel) rfl (by decide) ?_; conv => whnf)
  (repeat (first | (refine numP.mk ?_ ?_; exact fN; conv => whnf) | ((first | apply loadP_get | apply loadP_agg' | apply storeP_getR); exact atT; rfl; conv => whnf) | ((first | apply loadP_cells0 | apply loadP_cellsA | apply idxP_sl); (first | exact ceC | exact slC); (first | rfl | assumption); (try intro _ _ _); conv => whnf) | (apply loadP_cells; exact ceC; rfl; conv => whnf)))
  refine loop_pins (CallMono.acall hB) (σ := Nat) (fun t => [(0, .pointer (some ⟨bc, 0, none⟩)), (1, .slice ps ns cs), (7, .int .i64 (call + t))])
    (fun t H' => Mod bk H H' ∧ CalledAt H1 H' bc br bk s call len pl cl ds ∧ t ≤ 101) (fun t => 101 - t) 0 ?_ ?_ ?_
  · exact ⟨rfl, rfl, by simp [upd], trivial⟩
  · exact ⟨Mod.ofExt (Ext.refl _), hc, by simp⟩
  rintro t E H2 ⟨m2, d2, k1⟩
  have b2 := d2.box
  (conv => whnf)
  (repeat (first | (refine numP.mk ?_ ?_; exact fN; conv => whnf) | ((first | apply loadP_get | apply loadP_agg' | apply storeP_getR); exact atT; rfl; conv => whnf) | ((first | apply loadP_cells0 | apply loadP_cellsA | apply idxP_sl); (first | exact ceC | exact slC); (first | rfl | assumption); (try intro _ _ _); conv => whnf) | (apply loadP_cells; exact ceC; rfl; conv => whnf)))
  refine ifP.mk (fun (hlt : call + t ≤ call + 100) => ?_) (fun hge => ?_)
  · (conv => whnf)
    refine callP_fn ?_
    refine s108 hB d2 ok.stn hcl (by omega) ok.len fun H3 p3 c3 l3 m3 d3 q3 r3 => ?_
    (conv => whnf)
    refine callP_fn ?_
    refine s107 hB ok.stn ok.seats.len r3 ns none 0 0 [] H3 _ d3 (hs.ext d3.ext) q3 .nil rfl (by omega) (by intro x hx; simp at hx) (fun H4 p4 m4 c4 w4 e4 q4 r4 t4 => ?_) (fun H4 e4 => ?_)
    · (conv => whnf)
      exact h1 _ _ _ _ _ w4 (by omega) ((m2.trans m3).trans (Mod.ofExt e4)) (d3.ext' e4) q4 r4 t4
    · (conv => whnf)
      (repeat (first | (refine numP.mk ?_ ?_; exact fN; conv => whnf) | ((first | apply loadP_get | apply loadP_agg' | apply storeP_getR); exact atT; rfl; conv => whnf) | ((first | apply loadP_cells0 | apply loadP_cellsA | apply idxP_sl); (first | exact ceC | exact slC); (first | rfl | assumption); (try intro _ _ _); conv => whnf) | (apply loadP_cells; exact ceC; rfl; conv => whnf)))
      refine ⟨t + 1, ⟨rfl, rfl, ?_, trivial⟩, ⟨(m2.trans m3).trans (Mod.ofExt e4), d3.ext' e4, by omega⟩, by omega⟩
      show Value.int .i64 (call + t + 1) = .int .i64 (call + ((t + 1 : Nat) : Int))
      congr 1; omega
  · (conv => whnf)
    exact h2 _ m2

theorem s17 {s : Stn} {call len : Int} {p : Option Addr} {n c : Nat} {l : List Int} {H : Heap} {R : Value → Heap → Prop} (hs : StnAt H s) (hl : SlP H 1 encI p n l) (ok : CallOk s call len n l)
    (h1 : ∀ H' t p' m' c' w', (call ≤ t ∧ t ≤ call + 100) → Ext H H' → SlP H' 1 encI p' m' w' → m' ≤ n → WhoOk s w' → R (.tuple ⟨[.int .i64 t, .slice p' m' c', .int .i64 0]⟩) H')
    (h2 : ∀ H', Ext H H' → R (.tuple ⟨[.int .i64 0, .slice none 0 0, .int .i64 3]⟩) H') :
    ACall AP B (.fn 17) [.agg ⟨encSt s⟩, .int .i64 call, .slice p n c, .int .i64 len] H R := by
  (refine run_fn hB (a := a17) ap17 (by decide +kernel) rfl (by decide) ?_; conv => whnf)
  (repeat (first | (refine numP.mk ?_ ?_; exact fN; conv => whnf) | ((first | apply loadP_get | apply loadP_agg' | apply storeP_getR); exact atT; rfl; conv => whnf) | ((first | apply loadP_cells0 | apply loadP_cellsA | apply idxP_sl); (first | exact ceC | exact slC); (first | rfl | assumption); (try intro _ _ _); conv => whnf) | (apply loadP_cells; exact ceC; rfl; conv => whnf)))
  generalize hH : H.push _ = H1
  have e1 : Ext H H1 := by rw [← hH]; exact exT
  refine callP_fn ?_
  refine s54 (s := s) hB (hs.ext e1) (hl.ext e1) ok fun H2 H3 bc br bk pl cl ds e3 e2 d3 => ?_
  have e13 := e1.trans e3
  have hk : H.size ≤ bk := by have := (e1.trans e2).size; have := d3.kge; omega
  have ofMod : ∀ H4, Mod bk H3 H4 → Ext H H4 := fun H4 m => ⟨fun b x hx => m.at' b x (e13.at' b x hx) (by have := hx.lt; omega), Nat.le_trans e13.size m.size⟩
  (conv => whnf)
  refine ifP.mk (fun a1 => absurd rfl a1) (fun _ => ?_)
  (conv => whnf)
  refine callP_fn ?_
  refine s55 hB d3 ((hl.ext e1).ext e2) ok (fun H4 t p4 m4 c4 w4 ht mod4 _ q4 r4 t4 => ?_) (fun H4 mod4 => ?_)
  · (conv => whnf)
    exact h1 _ _ _ _ _ w4 ht (ofMod _ mod4) q4 r4 t4
  · (conv => whnf)
    exact h2 _ (ofMod _ mod4)

/-- Big: some answer. -/
theorem s8 {s : Stn} {H : Heap} {R : Value → Heap → Prop} (hs : StnAt H s) (h1 : ∀ H' b, Ext H H' → R (.bool b) H') :
    ACall AP B (.fn 8) [.agg ⟨encSt s⟩] H R := by
  have hl := hs.hands
  have hlen := hl.len
  (refine run_fn hB (a := a8) ap8 (by decide +kernel) rfl (by decide) ?_; conv => whnf)
  (repeat (first | (refine numP.mk ?_ ?_; exact fN; conv => whnf) | ((first | apply loadP_get | apply loadP_agg' | apply storeP_getR); exact atT; rfl; conv => whnf) | ((first | apply loadP_cells0 | apply loadP_cellsA | apply idxP_sl); (first | exact ceC | exact slC); (first | rfl | assumption); (try intro _ _ _); conv => whnf) | (apply loadP_cells; exact ceC; rfl; conv => whnf)))
  refine ifP.mk (fun _ => ?_) (fun a1 => ?_)
  · (conv => whnf)
    exact h1 _ _ exT
  (conv => whnf)
  generalize hH : H.push _ = H1
  have e1 : Ext H H1 := by rw [← hH]; exact exT
  have hA : At H1 H.size (.cells false 0 (encSt s)) := by rw [← hH]; exact At.self
  refine loop_pins (CallMono.acall hB) (σ := Nat) (fun i => [(1, .pointer (some ⟨H.size, 0, none⟩)), (3, .int .i64 (i : Int))])
    (fun i H' => H' = H1 ∧ i ≤ s.n) (fun i => s.n - i) 0 ?_ ?_ ?_
  · exact ⟨rfl, rfl, trivial⟩
  · exact ⟨rfl, by simp⟩
  rintro i E H2 ⟨rfl, k1⟩
  (conv => whnf)
  (repeat (first | (refine numP.mk ?_ ?_; exact fN; conv => whnf) | ((first | apply loadP_get | apply loadP_agg' | apply storeP_getR); exact atT; rfl; conv => whnf) | ((first | apply loadP_cells0 | apply loadP_cellsA | apply idxP_sl); (first | exact ceC | exact slC); (first | rfl | assumption); (try intro _ _ _); conv => whnf) | (apply loadP_cells; exact ceC; rfl; conv => whnf)))
  refine ifP.mk (fun hlt => ?_) (fun hge => ?_)
  · (conv => whnf)
    obtain ⟨x, hx⟩ : ∃ x, s.hands[i]? = some x := ⟨s.hands[i], by simp⟩
    have hl' := hl.ext e1
    (repeat (first | (refine numP.mk ?_ ?_; exact fN; conv => whnf) | ((first | apply loadP_get | apply loadP_agg' | apply storeP_getR); exact atT; rfl; conv => whnf) | ((first | apply loadP_cells0 | apply loadP_cellsA | apply idxP_sl); (first | exact ceC | exact slC); (first | rfl | assumption); (try intro _ _ _); conv => whnf) | (apply loadP_cells; exact ceC; rfl; conv => whnf)))
    refine ifP.mk (fun _ => ?_) (fun _ => ?_)
    · (conv => whnf)
      exact h1 _ _ e1
    · (conv => whnf)
      (repeat (first | (refine numP.mk ?_ ?_; exact fN; conv => whnf) | ((first | apply loadP_get | apply loadP_agg' | apply storeP_getR); exact atT; rfl; conv => whnf) | ((first | apply loadP_cells0 | apply loadP_cellsA | apply idxP_sl); (first | exact ceC | exact slC); (first | rfl | assumption); (try intro _ _ _); conv => whnf) | (apply loadP_cells; exact ceC; rfl; conv => whnf)))
      exact ⟨i + 1, ⟨rfl, rfl, trivial⟩, ⟨rfl, by omega⟩, by omega⟩
  · (conv => whnf)
    (repeat (first | (refine numP.mk ?_ ?_; exact fN; conv => whnf) | ((first | apply loadP_get | apply loadP_agg' | apply storeP_getR); exact atT; rfl; conv => whnf) | ((first | apply loadP_cells0 | apply loadP_cellsA | apply idxP_sl); (first | exact ceC | exact slC); (first | rfl | assumption); (try intro _ _ _); conv => whnf) | (apply loadP_cells; exact ceC; rfl; conv => whnf)))
    refine callP_fn ?_
    refine s41 (s := s) hB (hs.ext e1) (fun H3 e3 _ => ?_) (fun H3 e3 _ => ?_)
    all_goals
      have hA3 := e3.at' _ _ hA
      have e13 := e1.trans e3
      (conv => whnf)
      (repeat' (first | (refine numP.mk ?_ ?_; exact fN; conv => whnf) | ((first | apply loadP_get | apply loadP_agg' | apply storeP_getR); exact atT; rfl; conv => whnf) | ((first | apply loadP_cells0 | apply loadP_cellsA | apply idxP_sl); (first | exact ceC | exact slC); (first | rfl | assumption); (try intro _ _ _); conv => whnf) | (apply loadP_cells; exact ceC; rfl; conv => whnf) | (refine ifP.mk (fun _ => ?_) (fun _ => ?_) <;> conv => whnf)))
    all_goals exact h1 _ _ e13

/-- Loud: some answer. -/
theorem s9 {call len : Int} {p : Option Addr} {n c : Nat} {H : Heap} {R : Value → Heap → Prop} (h1 : ∀ H' b, Ext H H' → R (.bool b) H') :
    ACall AP B (.fn 9) [.agg ⟨[.int .i64 call, .slice p n c, .int .i64 len]⟩] H R := by
  (refine run_fn hB (a := a9) ap9 (by decide +kernel) rfl (by decide) ?_; conv => whnf)
  (repeat' (first | (refine numP.mk ?_ ?_; exact fN; conv => whnf) | ((first | apply loadP_get | apply loadP_agg' | apply storeP_getR); exact atT; rfl; conv => whnf) | ((first | apply loadP_cells0 | apply loadP_cellsA | apply idxP_sl); (first | exact ceC | exact slC); (first | rfl | assumption); (try intro _ _ _); conv => whnf) | (apply loadP_cells; exact ceC; rfl; conv => whnf) | (refine ifP.mk (fun _ => ?_) (fun _ => ?_) <;> conv => whnf)))
  all_goals exact h1 _ _ exT
end LV
