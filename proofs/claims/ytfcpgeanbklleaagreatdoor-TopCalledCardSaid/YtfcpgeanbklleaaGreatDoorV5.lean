/- Part of the proof of this claim: text V5. -/
import Derived.Test.YtfcpgeanbklleaaGreatDoorV4
import Derived.Test.YtfcpgeanbklleaaGreatDoorW11
set_option linter.unusedSectionVars false
set_option linter.unusedSimpArgs false
set_option linter.unusedVariables false
namespace LV
open Go Ab
set_option maxRecDepth 100000

variable {B : CallPred} (hB : BaseMono B)
include hB

theorem s122 {c : Cht} {cell : Nat} {d : Int} {H : Heap} {R : Value → Heap → Prop} (hc : ChtAt H c) (ok : ChtOk c) (hW : At H 0 (.cells true 0 wyL)) (hcell : cell < c.nd) (hd : 0 ≤ d ∧ d ≤ 5)
    (h1 : ∀ H' (n : Int), Ext H H' → 0 ≤ n → n < c.nd → R (.tuple ⟨[.int .i64 n, .int .i64 0]⟩) H') (h2 : ∀ H', Ext H H' → R (.tuple ⟨[.int .i64 0, .int .i64 3]⟩) H') :
    ACall AP B (.fn 122) [.agg ⟨encC c⟩, .int .i64 (cell : Int), .int .i64 d] H R := by
  (refine run_fn hB (a := a122) ap122 (by decide +kernel) rfl (by decide) ?_; conv => whnf)
  (repeat (first | (refine numP.mk ?_ ?_; exact fN; conv => whnf) | ((first | apply loadP_get | apply loadP_agg' | apply storeP_getR); exact atT; rfl; conv => whnf) | ((first | apply loadP_cells0 | apply loadP_cellsA | apply idxP_sl); (first | exact ceC | exact slC); (first | rfl | assumption); (try intro _ _ _); conv => whnf) | (apply loadP_cells; exact ceC; rfl; conv => whnf)))
  generalize hH : (H.push _).push _ = H1
  have e1 : Ext H H1 := by rw [← hH]; exact exT
  have k2 : At H1 (H.size + 1) (.cells false 1 ([(cell : Int)].flatMap encI)) := by rw [← hH]; exact atT
  refine callP_fn ?_
  refine s101 hB (hc.ext e1) ok (k2.slP fun _ _ => rfl) (p2 := none) (n2 := 0) (l2 := []) ⟨rfl, by simp, by intro i x hx; simp at hx⟩ (p3 := none) (n3 := 0) (l3 := []) ⟨rfl, by simp, by intro i x hx; simp at hx⟩ (by decide) (by decide) (by decide) (by simp; omega) (by simp) (by simp) fun H2 e2 => ?_
  have e12 := e1.trans e2
  (conv => whnf)
  (repeat (first | (refine numP.mk ?_ ?_; exact fN; conv => whnf) | ((first | apply loadP_get | apply loadP_agg' | apply storeP_getR); exact atT; rfl; conv => whnf) | ((first | apply loadP_cells0 | apply loadP_cellsA | apply idxP_sl); (first | exact ceC | exact slC); (first | rfl | assumption); (try intro _ _ _); conv => whnf) | (apply loadP_cells; exact ceC; rfl; conv => whnf)))
  (refine ifP_y (by decide) ?_; conv => whnf)
  refine callP_fn (s155 hB (fun _ _ => ?_) (fun a1 => absurd hd a1))
  (conv => whnf)
  (refine ifP_n (by decide) ?_; conv => whnf)
  (repeat (first | (refine numP.mk ?_ ?_; exact fN; conv => whnf) | ((first | apply loadP_get | apply loadP_agg' | apply storeP_getR); exact atT; rfl; conv => whnf) | ((first | apply loadP_cells0 | apply loadP_cellsA | apply idxP_sl); (first | exact ceC | exact slC); (first | rfl | assumption); (try intro _ _ _); conv => whnf) | (apply loadP_cells; exact ceC; rfl; conv => whnf)))
  generalize hH2 : (H2.push _).set _ _ = H3
  have e23 : Ext H2 H3 := by rw [← hH2]; exact exT
  have e13 := e12.trans e23
  refine callP_fn ?_
  refine s160 hB ok (e13.at' _ _ hW) hcell hd (fun H4 n e4 n1 n2 => ?_) (fun H4 e4 => ?_)
  · (conv => whnf)
    exact h1 _ _ (e13.trans e4) n1 n2
  · (conv => whnf)
    exact h2 _ (e13.trans e4)

omit hB in
/-- 'append' onto a slice of the call's own: what comes lies in a new block. -/
theorem appendP_mine {H0 H : Heap} {esz n c m bytes cx : Nat} {p px : Option Addr} {C xs : List Value} {KH : Value → Heap → Prop} (hE : Ext H0 H) (ho : Mine H0 H esz p n c C) (hx : Src H esz px m xs) (h1 : xs.all Value.oneCell' = true) (hesz : esz ≠ 0) (hm : m ≠ 0) (hb : (n + m) * bytes ≤ 70368744177664) (hb2 : n + m ≤ 70368744177664)
    (k : ∀ H', Ext H0 H' → H'.size = H.size + 1 → Mine H0 H' esz (some ⟨H.size, 0, none⟩) (n + m) openCap (C ++ xs) → (∀ d x, At H d x → (∀ a, p = some a → a.block ≠ d) → At H' d x) → KH (.slice (some ⟨H.size, 0, none⟩) (n + m) openCap) H') :
    appendP H esz bytes (.slice p n c) (.slice px m cx) KH := by
  refine ⟨?_⟩
  have hlen := ho.own.len
  have hsrc := ho.own.srcOf
  have hxl := hx.1
  have hl2 : (C ++ xs).length = (n + m) * esz := by rw [List.length_append, hlen, hxl, Nat.add_mul]
  simp only [appendA, lenV, hx.sliceCells, if_neg hm]
  rw [if_neg (by simp only [Classical.not_not]; exact ⟨hesz, h1, hb, hb2⟩)]
  cases ho with
  | nil =>
    rw [if_neg (by decide), if_neg (by omega), hsrc.sliceCells]
    exact k _ hE.push rfl (.mk hE.size At.self hl2) fun d x hd _ => hd.push
  | mk hb0 hat hl =>
    simp only [if_true, hat.get]
    rw [if_neg (by simp only [Classical.not_not, true_and]; omega), if_neg (by
      rw [hl, Nat.zero_add]
      have : n * esz < (n + m) * esz := Nat.mul_lt_mul_of_pos_right (by omega) (by omega)
      omega)]
    have hC : (C.drop 0).take (n * esz) = C := by rw [List.drop_zero, ← hl, List.take_length]
    rw [hC]
    exact k _ (hE.set hb0).push rfl (.mk hE.size At.self hl2) fun d x hd hne => (hd.setNe (fun e => hne _ rfl e.symm)).push

omit hB in
theorem Mine.inv {H0 H : Heap} {esz n c : Nat} {p : Option Addr} {C : List Value} (h : Mine H0 H esz p n c C) (hn : 0 < n) : ∃ b, p = some ⟨b, 0, none⟩ ∧ c = openCap ∧ H0.size ≤ b ∧ At H b (.cells false esz C) ∧ C.length = n * esz := by
  cases h with
  | nil => omega
  | mk h1 h2 h3 => exact ⟨_, rfl, rfl, h1, h2, h3⟩

def growL (l : List (Int × Int)) (t : Int) : List (Int × Int) :=
  match l.getLast? with
  | some s => if s.2 = t - 1 then l.set (l.length - 1) (s.1, t) else l ++ [(t, t)]
  | none => [(t, t)]

omit hB in
theorem growL_len (l : List (Int × Int)) (t : Int) : (growL l t).length ≤ l.length + 1 := by
  unfold growL
  split
  · split <;> simp
  · simp

omit hB in
theorem growL_mem {l : List (Int × Int)} {t : Int} {s : Int × Int} (h : s ∈ growL l t) : s ∈ l ∨ s = (t, t) ∨ ∃ s0 ∈ l, s0.2 = t - 1 ∧ s = (s0.1, t) := by
  unfold growL at h
  split at h
  · rename_i s0 hs
    have hm := List.mem_of_getLast? hs
    split at h
    · rename_i he
      rcases List.mem_or_eq_of_mem_set h with h | h
      · exact .inl h
      · exact .inr (.inr ⟨s0, hm, he, h⟩)
    · rcases List.mem_append.1 h with h | h
      · exact .inl h
      · simp at h; exact .inr (.inl h)
  · simp at h; exact .inr (.inl h)

/-- A tick at the end of spans of the call's own. -/
theorem s175 {H0 H : Heap} {p : Option Addr} {n c : Nat} {l : List (Int × Int)} {t : Int} {R : Value → Heap → Prop} (hE : Ext H0 H) (hm : Mine H0 H 2 p n c (l.flatMap encS)) (hn : n = l.length) (hn2 : n ≤ 100) (ht : 0 ≤ t ∧ t ≤ 100)
    (h1 : ∀ H' p' c', Ext H0 H' → H.size ≤ H'.size → Mine H0 H' 2 p' (growL l t).length c' ((growL l t).flatMap encS) → (p' = p ∨ p' = some ⟨H.size + 1, 0, none⟩) → (∀ d x, At H d x → (∀ a, p = some a → a.block ≠ d) → At H' d x) → R (.slice p' (growL l t).length c') H') :
    ACall AP B (.fn 175) [.slice p n c, .int .i64 t] H R := by
  have app : (∀ s, l.getLast? = some s → s.2 ≠ t - 1) → ∀ H' p' c', Ext H0 H' → H.size ≤ H'.size → Mine H0 H' 2 p' (n + 1) c' (l.flatMap encS ++ encS (t, t)) → (p' = p ∨ p' = some ⟨H.size + 1, 0, none⟩) → (∀ d x, At H d x → (∀ a, p = some a → a.block ≠ d) → At H' d x) → R (.slice p' (n + 1) c') H' := by
    intro hs H' p' c' e sz m q r
    have hg : growL l t = l ++ [(t, t)] := by
      unfold growL
      split
      · rename_i s0 h0
        rw [if_neg (hs s0 h0)]
      · rename_i h0
        rw [List.getLast?_eq_none_iff.1 h0]; rfl
    have := h1 H' p' c' e sz (by rw [hg]; simpa [hn] using m) q r
    rw [hg] at this
    simpa [hn] using this
  have app2 : (∀ s, l.getLast? = some s → s.2 ≠ t - 1) → ∀ {H1 : Heap} {cx : Nat} {KH : Value → Heap → Prop}, Ext H H1 → H1.size = H.size + 1 → At H1 H.size (.cells false 2 (encS (t, t))) → (∀ p' c' H', R (.slice p' (n + 1) c') H' → KH (.slice p' (n + 1) c') H') → appendP H1 2 16 (.slice p n c) (.slice (some ⟨H.size, 0, none⟩) 1 cx) KH := by
    intro hs H1 cx KH e1 sz1 k1 hk
    refine appendP_mine (m := 1) (xs := encS (t, t)) (hE.trans e1) (hm.ext e1) (Src.ofAt k1 rfl) rfl (by decide) (by decide) (by omega) (by omega) fun H' e sz m r => ?_
    rw [sz1] at m ⊢
    exact hk _ _ _ (app hs _ _ _ e (by omega) m (.inr rfl) fun d x hd hp => r d x (e1.at' _ _ hd) hp)
  (refine run_fn hB (a := a175) ap175 (by decide +kernel) rfl (by decide) ?_; conv => whnf)
  refine ifP.mk (fun a1 => ?_) (fun a1 => ?_)
  · (conv => whnf)
    obtain ⟨s, hs⟩ : ∃ s, l.getLast? = some s := by
      cases h : l.getLast? with
      | none => rw [List.getLast?_eq_none_iff.1 h] at hn; simp at hn; omega
      | some s => exact ⟨s, rfl⟩
    have hx : l[n - 1]? = some s := by rw [hn, ← List.getLast?_eq_getElem?]; exact hs
    obtain ⟨b, rfl, rfl, hb, hat, hl⟩ := hm.inv (by omega)
    have tn : ((n : Int) - 1).toNat = n - 1 := by omega
    (repeat (first | (refine numP.mk ?_ ?_; exact fN; conv => whnf) | ((first | apply loadP_get | apply loadP_agg' | apply storeP_getR); exact atT; rfl; conv => whnf) | ((first | apply loadP_cells0 | apply loadP_cellsA | apply idxP_sl); (first | exact ceC | exact slC); (first | rfl | assumption); (try intro _ _ _); conv => whnf) | (apply loadP_cells; exact ceC; rfl; conv => whnf)))
    refine idxP_slice (by omega) (by omega) ?_
    (conv => whnf)
    refine loadP_cellsF (o := 0 + (n - 1) * 2) (f := 1) (vs := encS s) (hat.cells (fun _ _ => rfl) hx) (by rw [tn]) rfl ?_
    (conv => whnf)
    (repeat (first | (refine numP.mk ?_ ?_; exact fN; conv => whnf) | ((first | apply loadP_get | apply loadP_agg' | apply storeP_getR); exact atT; rfl; conv => whnf) | ((first | apply loadP_cells0 | apply loadP_cellsA | apply idxP_sl); (first | exact ceC | exact slC); (first | rfl | assumption); (try intro _ _ _); conv => whnf) | (apply loadP_cells; exact ceC; rfl; conv => whnf)))
    refine ifP.mk (fun (a2 : s.2 = t - 1) => ?_) (fun (a2 : ¬ s.2 = t - 1) => ?_)
    · (conv => whnf)
      (repeat (first | (refine numP.mk ?_ ?_; exact fN; conv => whnf) | ((first | apply loadP_get | apply loadP_agg' | apply storeP_getR); exact atT; rfl; conv => whnf) | ((first | apply loadP_cells0 | apply loadP_cellsA | apply idxP_sl); (first | exact ceC | exact slC); (first | rfl | assumption); (try intro _ _ _); conv => whnf) | (apply loadP_cells; exact ceC; rfl; conv => whnf)))
      refine idxP_slice (by omega) (by omega) ?_
      (conv => whnf)
      refine storeP_elem (enc := encS) (l := l) (k := n - 1) (f := 1) (x := s) (y := (s.1, t)) hat (fun _ _ => rfl) hx (by rw [tn]; omega) rfl (by decide) rfl rfl ?_
      (conv => whnf)
      have hg : growL l t = l.set (n - 1) (s.1, t) := by unfold growL; rw [hs]; simp only [a2, if_true, hn]
      have hlen : (growL l t).length = n := by rw [hg, List.length_set, hn]
      have q := h1 (H.set b (.cells false 2 ((growL l t).flatMap encS))) (some ⟨b, 0, none⟩) openCap (hE.set hb) (Nat.le_refl _) (.mk hb (At.setSelf hat.lt) (flat_length _ (fun _ _ => rfl))) (.inl rfl) (fun d x hd hne => hd.setNe fun e => hne _ rfl e.symm)
      rw [hlen] at q
      rw [hg] at q
      exact q
    · (conv => whnf)
      (repeat (first | (refine numP.mk ?_ ?_; exact fN; conv => whnf) | ((first | apply loadP_get | apply loadP_agg' | apply storeP_getR); exact atT; rfl; conv => whnf) | ((first | apply loadP_cells0 | apply loadP_cellsA | apply idxP_sl); (first | exact ceC | exact slC); (first | rfl | assumption); (try intro _ _ _); conv => whnf) | (apply loadP_cells; exact ceC; rfl; conv => whnf)))
      generalize hH : H.push _ = H1
      exact app2 (by intro s' hs'; rw [hs] at hs'; cases hs'; exact a2) (by rw [← hH]; exact exT) (by rw [← hH]; rfl) (by rw [← hH]; exact atT) fun p' c' H' hr => by
        (conv => whnf)
        exact hr
  · (conv => whnf)
    (repeat (first | (refine numP.mk ?_ ?_; exact fN; conv => whnf) | ((first | apply loadP_get | apply loadP_agg' | apply storeP_getR); exact atT; rfl; conv => whnf) | ((first | apply loadP_cells0 | apply loadP_cellsA | apply idxP_sl); (first | exact ceC | exact slC); (first | rfl | assumption); (try intro _ _ _); conv => whnf) | (apply loadP_cells; exact ceC; rfl; conv => whnf)))
    have h0 : l = [] := List.length_eq_zero_iff.1 (by omega)
    generalize hH : H.push _ = H1
    exact app2 (by rw [h0]; simp) (by rw [← hH]; exact exT) (by rw [← hH]; rfl) (by rw [← hH]; exact atT) fun p' c' H' hr => by
      (conv => whnf)
      exact hr
end LV
