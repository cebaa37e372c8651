/- Part of the proof of this claim: text W11. -/
import Derived.Test.YtfcpgeanbklleaaGreatDoorW10
set_option linter.unusedSectionVars false
set_option linter.unusedSimpArgs false
set_option linter.unusedVariables false
namespace LV
open Go Ab
set_option maxRecDepth 100000

def encB (b : Bool) : List Value := [.bool b]

/-- Who can be of a crew has said that he comes. -/
def CanOk (s : Stn) (l : List Bool) : Prop := ∀ (i : Nat) h, l[i]? = some true → s.hands[i]? = some h → h.answer = 1

/-- A slice that a call fills from nothing. -/
inductive Mine (H0 H : Heap) (esz : Nat) : Option Addr → Nat → Nat → List Value → Prop
  | nil : Mine H0 H esz none 0 0 []
  | mk {b n : Nat} {C : List Value} : H0.size ≤ b → At H b (.cells false esz C) → C.length = n * esz → Mine H0 H esz (some ⟨b, 0, none⟩) n openCap C

theorem Mine.own {H0 H : Heap} {esz n c : Nat} {p : Option Addr} {C : List Value} (h : Mine H0 H esz p n c C) : Own H0 H esz p n c C := by
  cases h with
  | nil => exact .src .nil
  | mk h1 h2 h3 => exact .mk h1 h2 h3

theorem Mine.ext {H0 H H' : Heap} {esz n c : Nat} {p : Option Addr} {C : List Value} (h : Mine H0 H esz p n c C) (he : Ext H H') : Mine H0 H' esz p n c C := by
  cases h with
  | nil => exact .nil
  | mk h1 h2 h3 => exact .mk h1 (he.at' _ _ h2) h3

theorem Mine.mod {H0 H H' : Heap} {esz n c bk k : Nat} {p : Option Addr} {C : List Value} (h : Mine H0 H esz p n c C) (hm : Mod bk H H') (hk : KnownAt H bk k) (he : esz ≠ 101) : Mine H0 H' esz p n c C := by
  cases h with
  | nil => exact .nil
  | mk h1 h2 h3 =>
    obtain ⟨D, k1, _⟩ := hk
    exact .mk h1 (hm.at' _ _ h2 (h2.ne k1 (by simp [he]))) h3

/-- A heap without a block. -/
def dropB (bk : Nat) (H : Heap) : Heap := ⟨fun i => if i = bk then none else H.get i, H.size⟩

theorem Mod.toDrop {bk : Nat} {H H' : Heap} (h : Mod bk H H') : Ext (dropB bk H) H' := by
  refine ⟨fun b x hx => ?_, h.size⟩
  have hg : (if b = bk then none else H.get b) = some x := hx.get
  split at hg
  · cases hg
  · rename_i hne
    exact h.at' b x ⟨hg, hx.lt⟩ hne

theorem Mod.ofDrop {bk : Nat} {H H' : Heap} (h : Ext (dropB bk H) H') : Mod bk H H' :=
  ⟨fun b x hx hne => h.at' b x ⟨(if_neg hne).trans hx.get, hx.lt⟩, h.size⟩

variable {B : CallPred} (hB : BaseMono B)
include hB

theorem s108 {H1 H : Heap} {bc br bk : Nat} {s : Stn} {call len : Int} {pl : Option Addr} {cl : Nat} {ds : List Nat} {tick : Int} {R : Value → Heap → Prop} (hc : CalledAt H1 H bc br bk s call len pl cl ds) (ok : StnOk s) (hcall : 0 ≤ call ∧ call ≤ 100) (ht : call ≤ tick ∧ tick ≤ call + 100) (hln : 1 ≤ len ∧ len ≤ 40)
    (h1 : ∀ H' p' c' l, Mod bk H H' → CalledAt H1 H' bc br bk s call len pl cl ds → SlP H' 1 encB p' s.n l → CanOk s l → R (.slice p' s.n c') H') :
    ACall AP B (.fn 108) [.pointer (some ⟨bc, 0, none⟩), .int .i64 tick] H R := by
  have hb := hc.box
  have hbr := hc.ext.at' _ _ hc.ros.box
  have hl1 := hc.ros.stn.hands
  have hlen := hl1.len
  have hn := ok.len
  (refine run_fn hB (a := a108) ap108 (by decide +kernel) rfl (by decide) ?_; conv => whnf)
  (repeat (first | (refine numP.mk ?_ ?_; exact fN; conv => whnf) | ((first | apply loadP_get | apply loadP_agg' | apply storeP_getR); exact atT; rfl; conv => whnf) | ((first | apply loadP_cells0 | apply loadP_cellsA | apply idxP_sl); (first | exact ceC | exact slC); (first | rfl | assumption); (try intro _ _ _); conv => whnf) | (apply loadP_cells; exact ceC; rfl; conv => whnf)))
  refine loop_pins (CallMono.acall hB) (σ := Nat × Option Addr × Nat × List Bool) (fun t => [(0, .pointer (some ⟨bc, 0, none⟩)), (1, .int .i64 tick), (5, .slice t.2.1 t.1 t.2.2.1), (15, .slice s.p s.n s.c), (16, .int .i64 (s.n : Int)), (17, .int .i64 (t.1 : Int))])
    (fun t H' => Mod bk H H' ∧ CalledAt H1 H' bc br bk s call len pl cl ds ∧ t.1 ≤ s.n ∧ Mine (dropB bk H) H' 1 t.2.1 t.1 t.2.2.1 (t.2.2.2.flatMap encB) ∧ t.2.2.2.length = t.1 ∧ CanOk s t.2.2.2) (fun t => s.n - t.1) (0, none, 0, []) ?_ ?_ ?_
  · exact ⟨rfl, rfl, rfl, rfl, rfl, rfl, trivial⟩
  · exact ⟨Mod.ofExt (Ext.refl _), hc, by simp, .nil, rfl, by intro i h hi; simp at hi⟩
  rintro ⟨i, p2, c2, l⟩ E H2 ⟨m2, d2, k1, k2, k3, k4⟩
  dsimp only at k1 k2 k3 k4
  obtain ⟨D2, q1, q2, q3⟩ := d2.known
  (conv => whnf)
  refine ifP.mk (fun hlt => ?_) (fun hge => ?_)
  · (conv => whnf)
    obtain ⟨x, hx⟩ : ∃ x, s.hands[i]? = some x := ⟨s.hands[i], by simp⟩
    have hl' := hl1.ext d2.ext
    have hok := ok.hands x (List.mem_of_getElem? hx)
    have p2' := hok.away
    have b2 := d2.box
    -- what is appended
    have can : ∀ u : Bool, (u = true → x.answer = 1) → CanOk s (l ++ [u]) := by
      intro u hu j h hj hh
      by_cases hji : j < l.length
      · rw [List.getElem?_append_left hji] at hj
        exact k4 j h hj hh
      · rw [List.getElem?_append_right (by omega)] at hj
        have : j - l.length = 0 := by
          have := (List.getElem?_eq_some_iff.1 hj).1
          simp at this; omega
        rw [this] at hj
        simp at hj
        have hji' : j = i := by omega
        subst hji'
        rw [hx] at hh; cases hh
        exact hu hj
    have fin : ∀ (u : Bool) (H4 : Heap) (b5 : Nat) (H5 : Heap), KnownAt H4 bk s.n → Mine (dropB bk H) H4 1 p2 i c2 (l.flatMap encB) → Ext (dropB bk H) H5 → H.size ≤ b5 → At H5 b5 (.cells false 1 (l.flatMap encB ++ [.bool u])) → (∀ d y, At H4 d y → (∀ a, p2 = some a → a.block ≠ d) ∨ c2 = i → At H5 d y) → (u = true → x.answer = 1) →
        Mod bk H H5 ∧ CalledAt H1 H5 bc br bk s call len pl cl ds ∧ i + 1 ≤ s.n ∧ Mine (dropB bk H) H5 1 (some ⟨b5, 0, none⟩) (i + 1) openCap ((l ++ [u]).flatMap encB) ∧ (l ++ [u]).length = i + 1 ∧ CanOk s (l ++ [u]) := by
      intro u H4 b5 H5 hk4 mine e5 hb5 a5 hpr hu
      have m5 := Mod.ofDrop e5
      have kn5 : KnownAt H5 bk s.n := by
        obtain ⟨D, g1, g2⟩ := hk4
        refine ⟨D, hpr _ _ g1 ?_, g2⟩
        generalize l.flatMap encB = L at mine
        cases mine with
        | nil => exact .inr rfl
        | mk v1 v2 v3 => exact .inl fun a ha => by cases ha; exact v2.ne g1 (by simp)
      refine ⟨m5, hc.mod m5 kn5, by omega, ?_, by simp [k3], can u hu⟩
      rw [List.flatMap_append]
      exact .mk hb5 a5 (by rw [List.length_append, flat_length (enc := encB) (esz := 1) _ (fun _ _ => rfl), k3]; rfl)
    have lb := b2.lt
    (repeat (first | (refine numP.mk ?_ ?_; exact fN; conv => whnf) | ((first | apply loadP_get | apply loadP_agg' | apply storeP_getR); exact atT; rfl; conv => whnf) | ((first | apply loadP_cells0 | apply loadP_cellsA | apply idxP_sl); (first | exact ceC | exact slC); (first | rfl | assumption); (try intro _ _ _); conv => whnf) | (apply loadP_cells; exact ceC; rfl; conv => whnf)))
    refine ifP.mk (fun (b1 : x.answer = 1) => ?_) (fun _ => ?_)
    · (conv => whnf)
      (repeat (first | (refine numP.mk ?_ ?_; exact fN; conv => whnf) | ((first | apply loadP_get | apply loadP_agg' | apply storeP_getR); exact atT; rfl; conv => whnf) | ((first | apply loadP_cells0 | apply loadP_cellsA | apply idxP_sl); (first | exact ceC | exact slC); (first | rfl | assumption); (try intro _ _ _); conv => whnf) | (apply loadP_cells; exact ceC; rfl; conv => whnf)))
      refine ifP.mk (fun _ => ?_) (fun _ => ?_)
      · (conv => whnf)
        refine callP_fn ?_
        generalize hH3 : (H2.push _).set _ _ = H3
        have e3 : Ext H2 H3 := by rw [← hH3]; exact exT
        refine s165 hB (d2.ext' e3) ok (by omega) hcall ht hln fun H4 u m4 d4 => ?_
        have mm4 := (m2.trans (Mod.ofExt e3)).trans m4
        have mine4 := (k2.ext e3).mod m4 (d2.ext' e3).known (by decide)
        (conv => whnf)
        refine appendP_own (H0 := dropB bk H) (n := i) (C := l.flatMap encB) (xs := [.bool u]) mm4.toDrop.push (mine4.own.mono exT) (Src.ofAt atT rfl) rfl (by decide) (by decide) (by omega) (by omega) ?_
        intro b5 H5 e5 hb5 a5 hpr
        (conv => whnf)
        (repeat (first | (refine numP.mk ?_ ?_; exact fN; conv => whnf) | ((first | apply loadP_get | apply loadP_agg' | apply storeP_getR); exact atT; rfl; conv => whnf) | ((first | apply loadP_cells0 | apply loadP_cellsA | apply idxP_sl); (first | exact ceC | exact slC); (first | rfl | assumption); (try intro _ _ _); conv => whnf) | (apply loadP_cells; exact ceC; rfl; conv => whnf)))
        exact ⟨(i + 1, some ⟨b5, 0, none⟩, openCap, l ++ [u]), ⟨rfl, rfl, rfl, rfl, rfl, rfl, trivial⟩, fin u H4 b5 H5 d4.known mine4 e5 hb5 a5 (fun d y hd hcnd => hpr d y hd.push hcnd) (fun _ => b1), by show s.n - (i + 1) < s.n - i; omega⟩
      · (conv => whnf)
        generalize hH3 : (H2.push _).set _ _ = H3
        have e3 : Ext H2 H3 := by rw [← hH3]; exact exT
        refine appendP_own (H0 := dropB bk H) (n := i) (C := l.flatMap encB) (xs := [.bool false]) (m2.trans (Mod.ofExt e3)).toDrop.push ((k2.ext e3).own.mono exT) (Src.ofAt atT rfl) rfl (by decide) (by decide) (by omega) (by omega) ?_
        intro b5 H5 e5 hb5 a5 hpr
        (conv => whnf)
        (repeat (first | (refine numP.mk ?_ ?_; exact fN; conv => whnf) | ((first | apply loadP_get | apply loadP_agg' | apply storeP_getR); exact atT; rfl; conv => whnf) | ((first | apply loadP_cells0 | apply loadP_cellsA | apply idxP_sl); (first | exact ceC | exact slC); (first | rfl | assumption); (try intro _ _ _); conv => whnf) | (apply loadP_cells; exact ceC; rfl; conv => whnf)))
        exact ⟨(i + 1, some ⟨b5, 0, none⟩, openCap, l ++ [false]), ⟨rfl, rfl, rfl, rfl, rfl, rfl, trivial⟩, fin false H3 b5 H5 (d2.ext' e3).known (k2.ext e3) e5 hb5 a5 (fun d y hd hcnd => hpr d y hd.push hcnd) (fun h => by cases h), by show s.n - (i + 1) < s.n - i; omega⟩
    · (conv => whnf)
      generalize hH3 : (H2.push _).set _ _ = H3
      have e3 : Ext H2 H3 := by rw [← hH3]; exact exT
      refine appendP_own (H0 := dropB bk H) (n := i) (C := l.flatMap encB) (xs := [.bool false]) (m2.trans (Mod.ofExt e3)).toDrop.push ((k2.ext e3).own.mono exT) (Src.ofAt atT rfl) rfl (by decide) (by decide) (by omega) (by omega) ?_
      intro b5 H5 e5 hb5 a5 hpr
      (conv => whnf)
      (repeat (first | (refine numP.mk ?_ ?_; exact fN; conv => whnf) | ((first | apply loadP_get | apply loadP_agg' | apply storeP_getR); exact atT; rfl; conv => whnf) | ((first | apply loadP_cells0 | apply loadP_cellsA | apply idxP_sl); (first | exact ceC | exact slC); (first | rfl | assumption); (try intro _ _ _); conv => whnf) | (apply loadP_cells; exact ceC; rfl; conv => whnf)))
      exact ⟨(i + 1, some ⟨b5, 0, none⟩, openCap, l ++ [false]), ⟨rfl, rfl, rfl, rfl, rfl, rfl, trivial⟩, fin false H3 b5 H5 (d2.ext' e3).known (k2.ext e3) e5 hb5 a5 (fun d y hd hcnd => hpr d y hd.push hcnd) (fun h => by cases h), by show s.n - (i + 1) < s.n - i; omega⟩
  · (conv => whnf)
    have hi : i = s.n := by omega
    subst hi
    exact h1 _ _ _ l m2 d2 (k2.own.srcOf.slP k3.symm (fun _ _ => rfl)) k4

theorem s142 {p : Option Addr} {n c : Nat} {l : List Int} {x : Int} {H : Heap} {R : Value → Heap → Prop} (hl : SlP H 1 encI p n l) (hn : n < 1000000) (h1 : ∀ i : Int, R (.int .i64 i) H) :
    ACall AP B (.fn 142) [.slice p n c, .int .i64 x] H R := by
  have hlen := hl.len
  (refine run_fn hB (a := a142) ap142 (by decide +kernel) rfl (by decide) ?_; conv => whnf)
  refine loop_pins (CallMono.acall hB) (σ := Nat) (fun i => [(0, .slice p n c), (1, .int .i64 x), (7, .int .i64 (n : Int)), (8, .int .i64 (i : Int))])
    (fun i H' => H' = H ∧ i ≤ n) (fun i => n - i) 0 ?_ ?_ ?_
  · exact ⟨rfl, rfl, rfl, rfl, trivial⟩
  · exact ⟨rfl, by simp⟩
  rintro i E H ⟨rfl, k1⟩
  (conv => whnf)
  refine ifP.mk (fun hlt => ?_) (fun hge => ?_)
  · (conv => whnf)
    obtain ⟨y, hx⟩ : ∃ y, l[i]? = some y := ⟨l[i], by simp⟩
    (repeat (first | (refine numP.mk ?_ ?_; exact fN; conv => whnf) | ((first | apply loadP_get | apply loadP_agg' | apply storeP_getR); exact atT; rfl; conv => whnf) | ((first | apply loadP_cells0 | apply loadP_cellsA | apply idxP_sl); (first | exact ceC | exact slC); (first | rfl | assumption); (try intro _ _ _); conv => whnf) | (apply loadP_cells; exact ceC; rfl; conv => whnf)))
    refine ifP.mk (fun _ => ?_) (fun _ => ?_)
    · (conv => whnf)
      exact h1 _
    · (conv => whnf)
      (repeat (first | (refine numP.mk ?_ ?_; exact fN; conv => whnf) | ((first | apply loadP_get | apply loadP_agg' | apply storeP_getR); exact atT; rfl; conv => whnf) | ((first | apply loadP_cells0 | apply loadP_cellsA | apply idxP_sl); (first | exact ceC | exact slC); (first | rfl | assumption); (try intro _ _ _); conv => whnf) | (apply loadP_cells; exact ceC; rfl; conv => whnf)))
      exact ⟨i + 1, ⟨rfl, rfl, rfl, rfl, trivial⟩, ⟨rfl, by omega⟩, by omega⟩
  · (conv => whnf)
    exact h1 _

theorem s164 {p : Option Addr} {n c : Nat} {l : List Int} {x : Int} {H : Heap} {R : Value → Heap → Prop} (hl : SlP H 1 encI p n l) (hn : n < 1000000) (h1 : ∀ b : Bool, R (.bool b) H) :
    ACall AP B (.fn 164) [.slice p n c, .int .i64 x] H R := by
  (refine run_fn hB (a := a164) ap164 (by decide +kernel) rfl (by decide) ?_; conv => whnf)
  refine callP_fn ?_
  refine s142 hB hl hn fun i => ?_
  (conv => whnf)
  refine ifP.mk (fun _ => ?_) (fun _ => ?_)
  · (conv => whnf)
    exact h1 _
  · (conv => whnf)
    exact h1 _

/-- A crew. -/
def WhoOk (s : Stn) (w : List Int) : Prop := ∀ x ∈ w, 0 ≤ x ∧ ∃ h, s.hands[x.toNat]? = some h ∧ h.answer = 1

theorem s107 {H1 : Heap} {bc br bk : Nat} {s : Stn} {call len : Int} {pl : Option Addr} {cl : Nat} {ds : List Nat} (ok : StnOk s) {ps : Option Addr} {ns cs : Nat} {seats : List Int} (hns : ns ≤ 5) {pc : Option Addr} {cc : Nat} {can : List Bool} (hcan : CanOk s can) :
    ∀ (k : Nat) (pw : Option Addr) (m cw : Nat) (w : List Int) (H : Heap) (R : Value → Heap → Prop), CalledAt H1 H bc br bk s call len pl cl ds → SlP H 1 encI ps ns seats → SlP H 1 encB pc s.n can → Mine H1 H 1 pw m cw (w.flatMap encI) → w.length = m → m + k = ns → WhoOk s w →
    (∀ H' p' m' c' w', Ext H H' → SlP H' 1 encI p' m' w' → m' ≤ ns → WhoOk s w' → R (.tuple ⟨[.slice p' m' c', .bool true]⟩) H') → (∀ H', Ext H H' → R (.tuple ⟨[.slice none 0 0, .bool false]⟩) H') →
    ACall AP B (.fn 107) [.pointer (some ⟨bc, 0, none⟩), .slice pc s.n cc, .slice ps ns cs, .slice pw m cw] H R := by
  intro k
  induction k with
  | zero =>
    intro pw m cw w H R hc hs hca hw hwl hk hok h1 h2
    (refine run_fn hB (a := a107) ap107 (by decide +kernel) rfl (by decide) ?_; conv => whnf)
    refine ifP.mk (fun _ => ?_) (fun hne => ?_)
    · (conv => whnf)
      exact h1 _ _ _ _ w (Ext.refl _) (hw.own.srcOf.slP hwl.symm (fun _ _ => rfl)) (by omega) hok
    · exact absurd (by omega) hne
  | succ k ih =>
    intro pw m cw w H R hc hs hca hw hwl hk hok h1 h2
    have hb := hc.box
    have hbr := hc.ext.at' _ _ hc.ros.box
    have hl1 := hc.ros.stn.hands
    have hlen := hl1.len
    have hslen := hs.len
    have hclen := hca.len
    have hn := ok.len
    (refine run_fn hB (a := a107) ap107 (by decide +kernel) rfl (by decide) ?_; conv => whnf)
    refine ifP.mk (fun he => ?_) (fun _ => ?_)
    · have he : (m : Int) = (ns : Int) := he
      omega
    (conv => whnf)
    (repeat (first | (refine numP.mk ?_ ?_; exact fN; conv => whnf) | ((first | apply loadP_get | apply loadP_agg' | apply storeP_getR); exact atT; rfl; conv => whnf) | ((first | apply loadP_cells0 | apply loadP_cellsA | apply idxP_sl); (first | exact ceC | exact slC); (first | rfl | assumption); (try intro _ _ _); conv => whnf) | (apply loadP_cells; exact ceC; rfl; conv => whnf)))
    refine loop_pins (CallMono.acall hB) (σ := Nat) (fun t => [(0, .pointer (some ⟨bc, 0, none⟩)), (1, .slice pc s.n cc), (2, .slice ps ns cs), (3, .slice pw m cw), (28, .slice s.p s.n s.c), (29, .int .i64 (s.n : Int)), (30, .int .i64 (t : Int))])
      (fun t H' => Ext H H' ∧ t ≤ s.n) (fun t => s.n - t) 0 ?_ ?_ ?_
    · exact ⟨rfl, rfl, rfl, rfl, rfl, rfl, rfl, trivial⟩
    · exact ⟨Ext.refl _, by simp⟩
    rintro t E H2 ⟨e2, k1⟩
    (conv => whnf)
    refine ifP.mk (fun hlt => ?_) (fun hge => ?_)
    · (conv => whnf)
      obtain ⟨x, hx⟩ : ∃ x, s.hands[t]? = some x := ⟨s.hands[t], by simp⟩
      obtain ⟨y, hy⟩ : ∃ y, seats[m]? = some y := ⟨seats[m], by simp⟩
      obtain ⟨u, hu⟩ : ∃ u, can[t]? = some u := ⟨can[t], by simp⟩
      have hl' := hl1.ext (hc.ext.trans e2)
      have hs' := hs.ext e2
      have hca' := hca.ext e2
      have skip : ∀ H5, Ext H2 H5 → Ext H H5 ∧ t + 1 ≤ s.n := fun H5 e5 => ⟨e2.trans e5, by omega⟩
      (repeat (first | (refine numP.mk ?_ ?_; exact fN; conv => whnf) | ((first | apply loadP_get | apply loadP_agg' | apply storeP_getR); exact atT; rfl; conv => whnf) | ((first | apply loadP_cells0 | apply loadP_cellsA | apply idxP_sl); (first | exact ceC | exact slC); (first | rfl | assumption); (try intro _ _ _); conv => whnf) | (apply loadP_cells; exact ceC; rfl; conv => whnf)))
      cases u with
      | false =>
        (conv => whnf)
        (repeat (first | (refine numP.mk ?_ ?_; exact fN; conv => whnf) | ((first | apply loadP_get | apply loadP_agg' | apply storeP_getR); exact atT; rfl; conv => whnf) | ((first | apply loadP_cells0 | apply loadP_cellsA | apply idxP_sl); (first | exact ceC | exact slC); (first | rfl | assumption); (try intro _ _ _); conv => whnf) | (apply loadP_cells; exact ceC; rfl; conv => whnf)))
        exact ⟨t + 1, ⟨rfl, rfl, rfl, rfl, rfl, rfl, rfl, trivial⟩, skip _ exT, by omega⟩
      | true =>
        (conv => whnf)
        (repeat (first | (refine numP.mk ?_ ?_; exact fN; conv => whnf) | ((first | apply loadP_get | apply loadP_agg' | apply storeP_getR); exact atT; rfl; conv => whnf) | ((first | apply loadP_cells0 | apply loadP_cellsA | apply idxP_sl); (first | exact ceC | exact slC); (first | rfl | assumption); (try intro _ _ _); conv => whnf) | (apply loadP_cells; exact ceC; rfl; conv => whnf)))
        refine ifP.mk (fun _ => ?_) (fun _ => ?_)
        · (conv => whnf)
          (repeat (first | (refine numP.mk ?_ ?_; exact fN; conv => whnf) | ((first | apply loadP_get | apply loadP_agg' | apply storeP_getR); exact atT; rfl; conv => whnf) | ((first | apply loadP_cells0 | apply loadP_cellsA | apply idxP_sl); (first | exact ceC | exact slC); (first | rfl | assumption); (try intro _ _ _); conv => whnf) | (apply loadP_cells; exact ceC; rfl; conv => whnf)))
          exact ⟨t + 1, ⟨rfl, rfl, rfl, rfl, rfl, rfl, rfl, trivial⟩, skip _ exT, by omega⟩
        (conv => whnf)
        have hwS := hw.own.srcOf.slP (l := w) hwl.symm (fun _ _ => rfl)
        generalize hH3 : (H2.push _).set _ _ = H3
        have e3 : Ext H2 H3 := by rw [← hH3]; exact exT
        have e03 := e2.trans e3
        refine callP_fn ?_
        refine s164 hB (hwS.ext e03) (by omega) fun u => ?_
        cases u with
        | true =>
          (conv => whnf)
          (repeat (first | (refine numP.mk ?_ ?_; exact fN; conv => whnf) | ((first | apply loadP_get | apply loadP_agg' | apply storeP_getR); exact atT; rfl; conv => whnf) | ((first | apply loadP_cells0 | apply loadP_cellsA | apply idxP_sl); (first | exact ceC | exact slC); (first | rfl | assumption); (try intro _ _ _); conv => whnf) | (apply loadP_cells; exact ceC; rfl; conv => whnf)))
          exact ⟨t + 1, ⟨rfl, rfl, rfl, rfl, rfl, rfl, rfl, trivial⟩, skip _ e3, by omega⟩
        | false =>
          (conv => whnf)
          refine sliceP_own (hw.own.mono e03) (by omega) fun p5 s5 => ?_
          (conv => whnf)
          refine appendP_own (H0 := H3.push _) (n := m) (C := w.flatMap encI) (xs := [.int .i64 (t : Int)]) (Ext.refl _) (.src (s5.ext exT)) (Src.ofAt atT rfl) rfl (by decide) (by decide) (by omega) (by omega) ?_
          intro b5 H5 e5 hb5 a5 hpr
          have e35 : Ext H3 H5 := (Ext.refl H3).push.trans e5
          have hb5' : H1.size ≤ b5 := Nat.le_trans (hc.ext.trans e03).push.size hb5
          have e25 := e3.trans e35
          have e05 := e2.trans e25
          (conv => whnf)
          refine callP_fn ?_
          refine ih (some ⟨b5, 0, none⟩) (m + 1) openCap (w ++ [(t : Int)]) H5 _ (hc.ext' e05) (hs.ext e05) (hca.ext e05) ?_ (by simp [hwl]) (by omega) ?_ (fun H6 p6 m6 c6 w6 e6 q6 r6 t6 => ?_) (fun H6 e6 => ?_)
          · rw [List.flatMap_append]
            exact .mk hb5' a5 (by rw [List.length_append, flat_length (enc := encI) (esz := 1) _ (fun _ _ => rfl), hwl]; rfl)
          · intro z hz
            rcases List.mem_append.1 hz with hz | hz
            · exact hok z hz
            · simp at hz; subst hz
              exact ⟨by omega, x, by simpa using hx, hcan t x hu hx⟩
          · (conv => whnf)
            exact h1 _ _ _ _ w6 (e05.trans e6) q6 r6 t6
          · (conv => whnf)
            (repeat (first | (refine numP.mk ?_ ?_; exact fN; conv => whnf) | ((first | apply loadP_get | apply loadP_agg' | apply storeP_getR); exact atT; rfl; conv => whnf) | ((first | apply loadP_cells0 | apply loadP_cellsA | apply idxP_sl); (first | exact ceC | exact slC); (first | rfl | assumption); (try intro _ _ _); conv => whnf) | (apply loadP_cells; exact ceC; rfl; conv => whnf)))
            exact ⟨t + 1, ⟨rfl, rfl, rfl, rfl, rfl, rfl, rfl, trivial⟩, skip _ (e25.trans e6), by omega⟩
    · (conv => whnf)
      exact h2 _ e2
end LV
