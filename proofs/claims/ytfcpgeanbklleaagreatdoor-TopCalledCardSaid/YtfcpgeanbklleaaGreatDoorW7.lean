/- Part of the proof of this claim: text W7. -/
import Derived.Test.YtfcpgeanbklleaaGreatDoorW6
set_option linter.unusedSectionVars false
set_option linter.unusedSimpArgs false
set_option linter.unusedVariables false
namespace LV
open Go Ab
set_option maxRecDepth 100000

def encPtr (b : Nat) : List Value := [.pointer (some ⟨b, 0, none⟩)]

structure Roster (H : Heap) (br : Nat) (s : Stn) (pl : Option Addr) (cl : Nat) (ds : List Nat) : Prop where
  stn : StnAt H s
  box : At H br (.cells false 0 [.slice s.p s.n s.c, .int .i64 s.window, .int .i64 s.duty, .slice pl s.n cl])
  logs : SlP H 1 encPtr pl s.n ds
  duties : ∀ d ∈ ds, ∃ C, At H d (.cells false 0 C) ∧ IsB C

theorem Roster.ext {H H' : Heap} {br : Nat} {s : Stn} {pl : Option Addr} {cl : Nat} {ds : List Nat} (h : Roster H br s pl cl ds) (he : Ext H H') : Roster H' br s pl cl ds :=
  ⟨h.stn.ext he, he.at' _ _ h.box, h.logs.ext he, fun d hd => let ⟨C, h1, h2⟩ := h.duties d hd; ⟨C, he.at' _ _ h1, h2⟩⟩

variable {B : CallPred} (hB : BaseMono B)
include hB

theorem s76 {s : Stn} {H : Heap} {R : Value → Heap → Prop} (hs : StnAt H s) (ok : StnOk s)
    (h1 : ∀ H' br pl cl ds, Ext H H' → H.size ≤ br → Roster H' br s pl cl ds → R (.tuple ⟨[.pointer (some ⟨br, 0, none⟩), .int .i64 0]⟩) H') :
    ACall AP B (.fn 76) [.agg ⟨encSt s⟩] H R := by
  have hl := hs.hands
  have hlen := hl.len
  have hn := ok.len
  (refine run_fn hB (a := a76) ap76 (by decide +kernel) rfl (by decide) ?_; conv => whnf)
  (repeat (first | (refine numP.mk ?_ ?_; exact fN; conv => whnf) | ((first | apply loadP_get | apply loadP_agg' | apply storeP_getR); exact atT; rfl; conv => whnf) | ((first | apply loadP_cells0 | apply loadP_cellsA | apply idxP_sl); (first | exact ceC | exact slC); (first | rfl | assumption); (try intro _ _ _); conv => whnf) | (apply loadP_cells; exact ceC; rfl; conv => whnf)))
  refine callP_fn ?_
  refine s126 (s := s) hB (hs.ext (Ext.refl _).push) ok fun H1 e1 => ?_
  have e01 : Ext H H1 := Ext.trans exT e1
  (conv => whnf)
  refine ifP.mk (fun a1 => absurd rfl a1) (fun _ => ?_)
  (conv => whnf)
  refine loadP_agg (e1.at' _ _ At.self) (Nat.le_of_ble_eq_true rfl) rfl ?_
  (conv => whnf)
  refine loadP_get ((e1.at' _ _ At.self).push) rfl ?_
  (conv => whnf)
  generalize hH : H1.push _ = H2
  have e12 : Ext H1 H2 := by rw [← hH]; exact exT
  have hA : At H2 H1.size (.cells false 0 [.slice s.p s.n s.c, .int .i64 s.window, .int .i64 s.duty, .slice none 0 0]) := by rw [← hH]; exact At.self
  refine loop_pins (CallMono.acall hB) (σ := Nat × Option Addr × Nat × List Nat) (fun t => [(5, .pointer (some ⟨H1.size, 0, none⟩)), (17, .slice s.p s.n s.c), (18, .int .i64 (s.n : Int)), (19, .int .i64 (t.1 : Int))])
    (fun t H' => Ext H1 H' ∧ t.1 ≤ s.n ∧ At H' H1.size (.cells false 0 [.slice s.p s.n s.c, .int .i64 s.window, .int .i64 s.duty, .slice t.2.1 t.1 t.2.2.1]) ∧ Own H1 H' 1 t.2.1 t.1 t.2.2.1 (t.2.2.2.flatMap encPtr) ∧ t.2.2.2.length = t.1 ∧ ∀ d ∈ t.2.2.2, ∃ C, At H' d (.cells false 0 C) ∧ IsB C) (fun t => s.n - t.1) (0, none, 0, []) ?_ ?_ ?_
  · exact ⟨rfl, rfl, rfl, rfl, trivial⟩
  · exact ⟨e12, by simp, hA, .src .nil, rfl, by simp⟩
  rintro ⟨i, pl, cl, ds⟩ E H3 ⟨e3, k1, k2, k3, k4, k5⟩
  dsimp only at k1 k2 k3 k4 k5
  have hlt3 := k2.lt
  (conv => whnf)
  refine ifP.mk (fun hlt => ?_) (fun hge => ?_)
  · (conv => whnf)
    obtain ⟨x, hx⟩ : ∃ x, s.hands[i]? = some x := ⟨s.hands[i], by simp⟩
    have hl' := hl.ext (e01.trans e3)
    have hm := List.mem_of_getElem? hx
    have hlog := (hs.logs x hm).ext (e01.trans e3)
    (repeat (first | (refine numP.mk ?_ ?_; exact fN; conv => whnf) | ((first | apply loadP_get | apply loadP_agg' | apply storeP_getR); exact atT; rfl; conv => whnf) | ((first | apply loadP_cells0 | apply loadP_cellsA | apply idxP_sl); (first | exact ceC | exact slC); (first | rfl | assumption); (try intro _ _ _); conv => whnf) | (apply loadP_cells; exact ceC; rfl; conv => whnf)))
    refine callP_fn ?_
    refine s127 (h := x) hB (hlog.ext exT) (ok.hands x hm) fun H4 b C e4 hb4 a4 c4 => ?_
    (conv => whnf)
    have e34 : Ext H3 H4 := Ext.trans exT e4
    refine ⟨keep_at (x := .cells false 0 [.slice s.p s.n s.c, .int .i64 s.window, .int .i64 s.duty, .slice pl i cl]) atT (e34.at' _ _ k2), ?_⟩
    (conv => whnf)
    have o4 := k3.mono e34
    refine appendP_own (H0 := H1) (n := i) (C := ds.flatMap encPtr) (xs := [.pointer (some ⟨b, 0, none⟩)]) (Ext.push (e3.trans e34)) (o4.mono exT) (Src.ofAt atT rfl) rfl (by decide) (by decide) (by omega) (by omega) ?_
    intro b5 H5 e5 hb5 a5 hpr
    have hpr' : ∀ d C, At H4 d (.cells false 0 C) → At H5 d (.cells false 0 C) := by
      intro d C hd
      refine hpr d _ hd.push ?_
      cases o4 with
      | src h => exact .inr rfl
      | mk h1 h2 h3 =>
        refine .inl fun a ha => ?_
        cases ha
        exact h2.ne hd (by simp)
    have br5 := hpr' _ _ (e34.at' _ _ k2)
    (conv => whnf)
    refine storeP_get br5 rfl (Nat.le_of_ble_eq_true rfl) rfl ?_
    (conv => whnf)
    (repeat (first | (refine numP.mk ?_ ?_; exact fN; conv => whnf) | ((first | apply loadP_get | apply loadP_agg' | apply storeP_getR); exact atT; rfl; conv => whnf) | ((first | apply loadP_cells0 | apply loadP_cellsA | apply idxP_sl); (first | exact ceC | exact slC); (first | rfl | assumption); (try intro _ _ _); conv => whnf) | (apply loadP_cells; exact ceC; rfl; conv => whnf)))
    have hne : H1.size ≠ b5 := br5.ne a5 (by simp)
    have hns : ∀ d C, At H5 d (.cells false 0 C) → IsB C → d ≠ H1.size := by
      intro d C hd hc
      refine hd.ne br5 ?_
      rintro ⟨⟩
      have := hc.1
      simp at this
    refine ⟨(i + 1, some ⟨b5, 0, none⟩, openCap, ds ++ [b]), ⟨rfl, rfl, rfl, rfl, trivial⟩, ⟨Ext.set e5 (Nat.le_refl _), by show i + 1 ≤ s.n; omega, At.setSelf br5.lt, ?_, by simp [k4], ?_⟩, by show s.n - (i + 1) < s.n - i; omega⟩
    · show Own H1 _ 1 (some ⟨b5, 0, none⟩) (i + 1) openCap ((ds ++ [b]).flatMap encPtr)
      rw [List.flatMap_append]
      exact .mk hb5 (At.setNe a5 (Ne.symm hne)) (by rw [List.length_append, flat_length (enc := encPtr) (esz := 1) _ (fun _ _ => rfl), k4]; rfl)
    · intro d hd
      rcases List.mem_append.1 hd with hd | hd
      · obtain ⟨C', q1, q2⟩ := k5 d hd
        have q3 := hpr' _ _ (e34.at' _ _ q1)
        exact ⟨C', q3.setNe (hns _ _ q3 q2), q2⟩
      · simp at hd; subst hd
        have q3 := hpr' _ _ a4
        exact ⟨C, q3.setNe (hns _ _ q3 c4), c4⟩
  · (conv => whnf)
    have hi : i = s.n := by omega
    subst hi
    exact h1 _ _ _ _ ds (e01.trans e3) e01.size ⟨hs.ext (e01.trans e3), k2, k3.srcOf.slP (by rw [k4]) (fun _ _ => rfl), k5⟩

theorem s162 : Asks B 162 [] [] fun x => ¬ (0 ≤ x ∧ x ≤ 255) := by
  intro x H R h1 h2
  show ACall AP B (.fn 162) [.int .i64 x] H R
  (refine run_fn hB (a := a162) ap162 (by decide +kernel) rfl (by decide) ?_; conv => whnf)
  refine callP_fn (s163 hB (fun a1 a2 => ?_) (fun a1 => ?_))
  · (conv => whnf)
    exact h2 fun h => h ⟨a1, a2⟩
  · (conv => whnf)
    exact h1 a1

theorem s106 {p : Option Addr} {n c : Nat} {l : List Int} {H : Heap} {R : Value → Heap → Prop} (hl : SlP H 1 encI p n l) (ok : SeatsOk n l) (h1 : R (.int .i64 0) H) :
    ACall AP B (.fn 106) [.slice p n c] H R := by
  have hn := ok.len
  (refine run_fn hB (a := a106) ap106 (by decide +kernel) rfl (by decide) ?_; conv => whnf)
  refine ifP.mk (fun a1 => ?_) (fun _ => ?_)
  · omega
  (conv => whnf)
  refine callP_fn ?_
  refine s158 hB (s162 hB) hl (by omega) (fun ⟨x, hx, hp⟩ => absurd (ok.all x hx) hp) (fun _ => ?_)
  (conv => whnf)
  exact h1
end LV
