/- Part of the proof of this claim: text V8. -/
import Derived.Test.YtfcpgeanbklleaaGreatDoorV7
set_option linter.unusedSectionVars false
set_option linter.unusedSimpArgs false
set_option linter.unusedVariables false
namespace LV
open Go Ab
set_option maxRecDepth 100000

theorem copyP_get {H : Heap} {bd od dl cd bs os m cs n e e2 : Nat} {ro : Bool} {D S : List Value} {K : Value → Heap → Prop} (hd : At H bd (.cells false e D)) (hs : At H bs (.cells ro e2 S)) (hn : Nat.min m dl = n) (h0 : n ≠ 0) (h1 : os + n ≤ S.length) (h2 : od + n ≤ D.length)
    (hone : ((S.drop os).take n).all Value.oneCell' = true) (k : K (.int .i64 (n : Int)) (H.set bd (.cells false e (over D od ((S.drop os).take n))))) :
    copyP H 1 (.slice (some ⟨bd, od, none⟩) dl cd) (.slice (some ⟨bs, os, none⟩) m cs) K := by
  refine ⟨?_⟩
  have hl : ((S.drop os).take n).length = n := by rw [List.length_take, List.length_drop]; omega
  simp only [copyA, lenV, hn, sliceCells, Nat.mul_one, if_neg h0, hs.get, if_pos h1, storeA, hd.get, hl, if_pos (And.intro h2 hone), Option.map_some, optVH]
  exact k

theorem sliceP_lo {H : Heap} {b o len cap lo : Nat} {K : Value → Prop} (hc : cap < openCap) (h1 : lo ≤ len) (h2 : len ≤ cap) (h3 : lo < cap) (k : K (.slice (some ⟨b, o + lo * 1, none⟩) (len - lo) (cap - lo))) :
    sliceP H 1 (.slice (some ⟨b, o, none⟩) len cap) (some (.int .i64 (lo : Int))) none none K := by
  refine ⟨?_⟩
  have hb : boundsA len cap (some (.int .i64 (lo : Int))) none none = some (lo, len, cap) := by
    simp only [boundsA, Option.elim, idx]
    rw [if_pos (by refine ⟨by omega, by omega, by omega, by omega, by simp⟩)]
    simp
  simp only [sliceV, if_neg (Nat.ne_of_lt hc), hb, optV, if_neg (Nat.ne_of_gt h3)]
  exact k

theorem sliceP_hi {H : Heap} {b o len cap hi : Nat} {K : Value → Prop} (hc : cap < openCap) (h1 : hi ≤ len) (h2 : len ≤ cap) (k : K (.slice (some ⟨b, o, none⟩) hi cap)) :
    sliceP H 1 (.slice (some ⟨b, o, none⟩) len cap) none (some (.int .i64 (hi : Int))) none K := by
  refine ⟨?_⟩
  have hb : boundsA len cap none (some (.int .i64 (hi : Int))) none = some (0, hi, cap) := by
    simp only [boundsA, Option.elim, idx]
    rw [if_pos (by refine ⟨by omega, by omega, by omega, by omega, by simp⟩)]
    simp
  have ho : (if cap = 0 then o else o + 0 * 1) = o := by split <;> simp
  simp only [sliceV, if_neg (Nat.ne_of_lt hc), hb, optV, ho, Nat.sub_zero]
  exact k

theorem over_rep {v z : Value} : ∀ (n m k : Nat), n ≤ k → over (List.replicate m v ++ List.replicate k z) m (List.replicate n v) = List.replicate (m + n) v ++ List.replicate (k - n) z
  | 0, m, k, _ => by simp [over]
  | n + 1, m, k, h => by
    rw [List.replicate_succ, over]
    have hs : (List.replicate m v ++ List.replicate k z).set m v = List.replicate (m + 1) v ++ List.replicate (k - 1) z := by
      obtain ⟨k', rfl⟩ : ∃ k', k = k' + 1 := ⟨k - 1, by omega⟩
      rw [List.set_append_right _ _ (by simp)]
      rw [show List.replicate (m + 1) v = List.replicate m v ++ [v] from List.replicate_succ', List.append_assoc]
      simp [List.replicate_succ]
    rw [hs, over_rep n (m + 1) (k - 1) (by omega)]
    congr 2 <;> omega

theorem flat_rep (x : Int) : ∀ n, (List.replicate n x).flatMap encI = List.replicate n (.int .i64 x)
  | 0 => rfl
  | n + 1 => by rw [List.replicate_succ, List.flatMap_cons, flat_rep x n, List.replicate_succ]; rfl

variable {B : CallPred} (hB : BaseMono B)
include hB

/-- Repeat of one number. -/
theorem s125 {x : Int} {n bx cx : Nat} {H : Heap} {R : Value → Heap → Prop} (hW : At H 0 (.cells true 0 wyL)) (hM : ∀ (n : Nat) (x : Int) H R, n ≤ 144 → x = (n : Int) → At H 0 (.cells true 0 wyL) → R (.tuple ⟨[.int .u64 0, .int .u64 (n : Int)]⟩) H → ACall AP B (.fn 180) [.int .u64 1, .int .u64 x] H R)
    (hx : At H bx (.cells false 1 [.int .i64 x])) (hn : 1 ≤ n ∧ n ≤ 144)
    (h1 : ∀ H' b, Ext H H' → H.size ≤ b → At H' b (.cells false 1 ((List.replicate n x).flatMap encI)) → R (.slice (some ⟨b, 0, none⟩) n n) H') :
    ACall AP B (.fn 125) [.slice (some ⟨bx, 0, none⟩) 1 cx, .int .i64 (n : Int)] H R := by
  have w1 : IntKind.wrap .u64 (n : Int) = (n : Int) := by
    have : ∀ k : Fin 145, IntKind.wrap .u64 ((k.val : Nat) : Int) = ((k.val : Nat) : Int) := by decide +kernel
    exact this ⟨n, by omega⟩
  have w2 : IntKind.wrap .i64 (n : Int) = (n : Int) := by
    have : ∀ k : Fin 145, IntKind.wrap .i64 ((k.val : Nat) : Int) = ((k.val : Nat) : Int) := by decide +kernel
    exact this ⟨n, by omega⟩
  (refine run_fn hB (a := a125) ap125 (by decide +kernel) rfl (by decide) ?_; conv => whnf)
  refine ifP_n (by omega) ?_
  (conv => whnf)
  refine callP_fn ?_
  refine hM n _ _ _ hn.2 w1 hW ?_
  (conv => whnf)
  have hd : decide ((9223372036854775807 : Int) < (n : Int)) = false := by simp; omega
  rw [hd]
  (conv => whnf)
  rw [w2]
  refine makeP_ok (l := (n : Int)) (by omega) (by omega) (by omega) ?_
  (conv => whnf)
  have hrep : repl n [.int .i64 0] = List.replicate 0 (.int .i64 x) ++ List.replicate n (.int .i64 0) := by
    have h0 : repl n [.int .i64 0] = (List.replicate n (0 : Int)).flatMap encI := repl_flat (enc := encI) (x := (0 : Int)) rfl n
    rw [h0, flat_rep]; rfl
  refine copyP_get (bd := H.size) (bs := bx) (D := List.replicate 0 (.int .i64 x) ++ List.replicate n (.int .i64 0)) (S := List.replicate 1 (.int .i64 x)) (ro := false) (e := 1) (e2 := 1) (n := 1) (by rw [← hrep]; exact At.self) hx.push (by show min 1 n = 1; omega) (by decide) (by simp) (by simp; omega) rfl ?_
  rw [show ((List.replicate 1 (Value.int .i64 x)).drop 0).take 1 = List.replicate 1 (Value.int .i64 x) from rfl, over_rep 1 0 n (by omega)]
  (conv => whnf)
  refine loop_pins (CallMono.acall hB) (σ := Nat) (fun m => [(7, .slice (some ⟨H.size, 0, none⟩) n n), (8, .int .i64 (m : Int))])
    (fun m H' => Ext H H' ∧ At H' H.size (.cells false 1 (List.replicate m (.int .i64 x) ++ List.replicate (n - m) (.int .i64 0))) ∧ 1 ≤ m ∧ m ≤ n) (fun m => n - m) 1 ?_ ?_ ?_
  · exact ⟨rfl, rfl, trivial⟩
  · exact ⟨(Ext.refl _).push.set (Nat.le_refl _), At.setSelf (by show H.size < H.size + 1; omega), Nat.le_refl _, hn.1⟩
  rintro m E H' ⟨e', k, m1, m2⟩
  (conv => whnf)
  refine ifP.mk (fun (hlt : (m : Int) < (n : Int)) => ?_) (fun (hge : ¬ (m : Int) < (n : Int)) => ?_)
  · (conv => whnf)
    refine sliceP_lo (by unfold openCap; omega) (by omega) (Nat.le_refl _) (by omega) ?_
    (conv => whnf)
    refine sliceP_hi (by unfold openCap; omega) (by omega) (Nat.le_refl _) ?_
    (conv => whnf)
    have hlen : (List.replicate m (Value.int .i64 x) ++ List.replicate (n - m) (Value.int .i64 0)).length = n := by simp; omega
    refine copyP_get (bd := H.size) (bs := H.size) (n := min m (n - m)) k k (by show min m (n - m) = _; rfl) (by omega) (by rw [hlen]; omega) (by rw [hlen]; omega) ?_ ?_
    · rw [List.drop_zero, List.take_append_of_le_length (by simp; omega), List.take_replicate, List.all_replicate]
      simp; exact .inr rfl
    rw [show ((List.replicate m (Value.int .i64 x) ++ List.replicate (n - m) (Value.int .i64 0)).drop 0).take (min m (n - m)) = List.replicate (min m (n - m)) (Value.int .i64 x) by
      rw [List.drop_zero, List.take_append_of_le_length (by simp; omega), List.take_replicate]; congr 1; omega]
    rw [show (0 + m * 1) = m by omega, over_rep _ m (n - m) (by omega)]
    (conv => whnf)
    (repeat (first | (refine numP.mk ?_ ?_; exact fN; conv => whnf) | ((first | apply loadP_get | apply loadP_agg' | apply storeP_getR); exact atT; rfl; conv => whnf) | ((first | apply loadP_cells0 | apply loadP_cellsA | apply idxP_sl); (first | exact ceC | exact slC); (first | rfl | assumption); (try intro _ _ _); conv => whnf) | (apply loadP_cells; exact ceC; rfl; conv => whnf)))
    refine ⟨m + min m (n - m), ⟨rfl, ?_, trivial⟩, ⟨e'.set (Nat.le_refl _), ?_, by omega, by omega⟩, by omega⟩
    · show Value.int .i64 ((m : Int) + ((min m (n - m) : Nat) : Int)) = .int .i64 ((m + min m (n - m) : Nat) : Int)
      congr 1
    · have : n - m - min m (n - m) = n - (m + min m (n - m)) := by omega
      rw [this]
      exact At.setSelf k.lt
  · have : m = n := by omega
    subst this
    (conv => whnf)
    refine h1 _ _ e' (Nat.le_refl _) ?_
    rw [flat_rep]
    simpa using k
end LV
namespace LV
open Go Ab
set_option maxRecDepth 100000

variable {B : CallPred} (hB : BaseMono B)
include hB

theorem s75 {bs br : Nat} {c : Cht} {b : Cls} {ramp : Nat} {rd : List Bool} {pc : Option Addr} {nc cc : Nat} {can : List (RowC Bool)} {pn : Option Addr} {nn cn : Nat} {near : List (RowC Int)} {t0 : Nat} {w : Bool} {H : Heap} {R : Value → Heap → Prop}
    (hW : At H 0 (.cells true 0 wyL)) (hM : ∀ (n : Nat) (x : Int) H R, n ≤ 144 → x = (n : Int) → At H 0 (.cells true 0 wyL) → R (.tuple ⟨[.int .u64 0, .int .u64 (n : Int)]⟩) H → ACall AP B (.fn 180) [.int .u64 1, .int .u64 x] H R)
    (hs : StaAt H bs br c b (ramp : Int) rd pc nc cc can pn nn cn near) (ok : ChtOk c) (hr : ramp < c.nd) (ht : t0 < c.nt) (hw : rd[t0]? = some w)
    (h1 : ∀ H' bo (out : List Int), Ext H H' → At H' bo (.cells false 1 (out.flatMap encI)) → out.length = c.nd → out[ramp]? = some (if w = true then (t0 : Int) else -1) → R (.slice (some ⟨bo, 0, none⟩) c.nd c.nd) H') :
    ACall AP B (.fn 75) [.pointer (some ⟨bs, 0, none⟩), .int .i64 (t0 : Int)] H R := by
  have okn := ok.cells
  have okt := ok.nt
  have hbx := hs.box
  (refine run_fn hB (a := a75) ap75 (by decide +kernel) rfl (by decide) ?_; conv => whnf)
  (repeat (first | (refine numP.mk ?_ ?_; exact fN; conv => whnf) | ((first | apply loadP_get | apply loadP_agg' | apply storeP_getR); exact atT; rfl; conv => whnf) | ((first | apply loadP_cells0 | apply loadP_cellsA | apply idxP_sl); (first | exact ceC | exact slC); (first | rfl | assumption); (try intro _ _ _); conv => whnf) | (apply loadP_cells; exact ceC; rfl; conv => whnf)))
  generalize hH : H.push _ = H1
  have e1 : Ext H H1 := by rw [← hH]; exact exT
  have kx : At H1 H.size (.cells false 1 [.int .i64 (-1)]) := by rw [← hH]; exact atT
  clear hH
  refine callP_fn ?_
  refine s125 hB (e1.at' _ _ hW) hM kx okn fun H2 bo e2 hbo k2 => ?_
  have e02 := e1.trans e2
  have s01 := e1.size
  have st2 := hs.ext e02
  have bx2 := st2.box
  have rd2 := st2.ready
  (conv => whnf)
  (repeat (first | (refine numP.mk ?_ ?_; exact fN; conv => whnf) | ((first | apply loadP_get | apply loadP_agg' | apply storeP_getR); exact atT; rfl; conv => whnf) | ((first | apply loadP_cells0 | apply loadP_cellsA | apply idxP_sl); (first | exact ceC | exact slC); (first | rfl | assumption); (try intro _ _ _); conv => whnf) | (apply loadP_cells; exact ceC; rfl; conv => whnf)))
  refine idxP_slice (by omega) (by omega) ?_
  (conv => whnf)
  refine loadP_cellsF (o := 0 + t0 * 1) (f := 0) (vs := encBo w) (rd2.cells (fun _ _ => rfl) hw) (by omega) rfl ?_
  cases w
  · (conv => whnf)
    exact h1 _ _ (List.replicate c.nd (-1)) e02 k2 (by simp) (by rw [List.getElem?_replicate, if_pos hr]; rfl)
  (conv => whnf)
  (repeat (first | (refine numP.mk ?_ ?_; exact fN; conv => whnf) | ((first | apply loadP_get | apply loadP_agg' | apply storeP_getR); exact atT; rfl; conv => whnf) | ((first | apply loadP_cells0 | apply loadP_cellsA | apply idxP_sl); (first | exact ceC | exact slC); (first | rfl | assumption); (try intro _ _ _); conv => whnf) | (apply loadP_cells; exact ceC; rfl; conv => whnf)))
  refine makeP_ok (by omega) (by omega) (by omega) ?_
  (conv => whnf)
  (repeat (first | (refine numP.mk ?_ ?_; exact fN; conv => whnf) | ((first | apply loadP_get | apply loadP_agg' | apply storeP_getR); exact atT; rfl; conv => whnf) | ((first | apply loadP_cells0 | apply loadP_cellsA | apply idxP_sl); (first | exact ceC | exact slC); (first | rfl | assumption); (try intro _ _ _); conv => whnf) | (apply loadP_cells; exact ceC; rfl; conv => whnf)))
  have hrep : repl c.nd [.bool false] = (List.replicate c.nd false).flatMap encBo := repl_flat (enc := encBo) (x := false) rfl c.nd
  refine idxP_slice (by omega) (by omega) ?_
  (conv => whnf)
  refine storeP_elem (enc := encBo) (l := List.replicate c.nd false) (k := ramp) (f := 0) (x := false) (y := true) (b := H2.size) (by rw [← hrep]; exact At.self) (fun _ _ => rfl) (by rw [List.getElem?_replicate, if_pos hr]) (by show 0 + ((ramp : Int)).toNat * 1 = ramp * 1 + 0; simp) rfl (by decide) rfl rfl ?_
  (conv => whnf)
  (repeat (first | (refine numP.mk ?_ ?_; exact fN; conv => whnf) | ((first | apply loadP_get | apply loadP_agg' | apply storeP_getR); exact atT; rfl; conv => whnf) | ((first | apply loadP_cells0 | apply loadP_cellsA | apply idxP_sl); (first | exact ceC | exact slC); (first | rfl | assumption); (try intro _ _ _); conv => whnf) | (apply loadP_cells; exact ceC; rfl; conv => whnf)))
  have s12 := e02.size
  refine loop_pins (CallMono.acall hB) (σ := Nat × Nat × List Bool × List Int)
    (fun z => [(0, .pointer (some ⟨bs, 0, none⟩)), (5, .slice (some ⟨bo, 0, none⟩) c.nd c.nd), (6, .slice (some ⟨z.2.1, 0, none⟩) c.nd c.nd), (7, .int .i64 (z.1 : Int))])
    (fun z H' => Ext H H' ∧ At H' bo (.cells false 1 (z.2.2.2.flatMap encI)) ∧ z.2.2.2.length = c.nd ∧ At H' z.2.1 (.cells false 1 (z.2.2.1.flatMap encBo)) ∧ z.2.2.1.length = c.nd ∧ H.size ≤ z.2.1 ∧ z.2.1 ≠ bo ∧ t0 ≤ z.1 ∧ z.1 < c.nt ∧
      (z.1 = t0 → z.2.2.1[ramp]? = some true ∧ z.2.2.2[ramp]? = some (-1)) ∧ (t0 < z.1 → z.2.2.2[ramp]? = some (t0 : Int))) (fun z => c.nt - z.1) (t0, H2.size, (List.replicate c.nd false).set ramp true, List.replicate c.nd (-1)) ?_ ?_ ?_
  · exact ⟨rfl, rfl, rfl, rfl, trivial⟩
  · have l2 := k2.lt
    exact ⟨(e02.push).set (by omega), (k2.push).setNe (by omega), by simp, At.setSelf (by show H2.size < H2.size + 1; omega), by simp, by show H.size ≤ H2.size; omega, by show H2.size ≠ bo; omega, Nat.le_refl _, ht, fun _ => ⟨by rw [List.getElem?_set_self (by simpa using hr)], by rw [List.getElem?_replicate, if_pos hr]⟩, fun h => by omega⟩
  rintro ⟨t, bn, now, out⟩ E H' ⟨e', ko, lo, kn, ln, hbn, hne, t1, t2, p1, p2⟩
  simp only at e' ko lo kn ln hbn hne t1 t2 p1 p2
  (conv => whnf)
  refine loop_pins (CallMono.acall hB) (σ := Nat × List Int)
    (fun z => [(0, .pointer (some ⟨bs, 0, none⟩)), (5, .slice (some ⟨bo, 0, none⟩) c.nd c.nd), (6, .slice (some ⟨bn, 0, none⟩) c.nd c.nd), (7, .int .i64 (t : Int)), (42, .slice (some ⟨bn, 0, none⟩) c.nd c.nd), (43, .int .i64 (c.nd : Int)), (44, .int .i64 (z.1 : Int))])
    (fun z H3 => Ext H H3 ∧ At H3 bo (.cells false 1 (z.2.flatMap encI)) ∧ z.2.length = c.nd ∧ At H3 bn (.cells false 1 (now.flatMap encBo)) ∧ z.1 ≤ c.nd ∧ z.2[ramp]? = some (if t = t0 ∧ z.1 ≤ ramp then -1 else (t0 : Int))) (fun z => c.nd - z.1) (0, out) ?_ ?_ ?_
  · exact ⟨rfl, rfl, rfl, rfl, rfl, rfl, rfl, trivial⟩
  · refine ⟨e', ko, lo, kn, Nat.zero_le _, ?_⟩
    by_cases h : t = t0
    · rw [if_pos ⟨h, Nat.zero_le _⟩]; exact (p1 h).2
    · rw [if_neg (fun x => h x.1)]; exact p2 (by omega)
  rintro ⟨k, o2⟩ E H3 ⟨e3, ko3, lo3, kn3, hk, q3⟩
  simp only at e3 ko3 lo3 kn3 hk q3
  (conv => whnf)
  refine ifP.mk (fun (hlt : (k : Int) < (c.nd : Int)) => ?_) (fun (hge : ¬ (k : Int) < (c.nd : Int)) => ?_)
  · have hk' : k < c.nd := by omega
    obtain ⟨v, hv⟩ : ∃ v, now[k]? = some v := ⟨now[k]'(by omega), by simp⟩
    obtain ⟨u, hu⟩ : ∃ u, o2[k]? = some u := ⟨o2[k]'(by omega), by simp⟩
    have sn := kn3.slP (enc := encBo) (fun _ _ => rfl)
    have so := ko3.slP (enc := encI) (fun _ _ => rfl)
    (conv => whnf)
    refine idxP_slice (by omega) (by omega) ?_
    (conv => whnf)
    refine loadP_cellsF (o := 0 + k * 1) (f := 0) (vs := encBo v) (kn3.cells (fun _ _ => rfl) hv) (by show 0 + ((k : Int)).toNat * 1 = _; omega) rfl ?_
    have next : ∀ {H4 : Heap} {o4 : List Int}, Ext H H4 → At H4 bo (.cells false 1 (o4.flatMap encI)) → o4.length = c.nd → At H4 bn (.cells false 1 (now.flatMap encBo)) → o4[ramp]? = some (if t = t0 ∧ k + 1 ≤ ramp then -1 else (t0 : Int)) →
        (Ext H H4 ∧ At H4 bo (.cells false 1 (o4.flatMap encI)) ∧ o4.length = c.nd ∧ At H4 bn (.cells false 1 (now.flatMap encBo)) ∧ k + 1 ≤ c.nd ∧ o4[ramp]? = some (if t = t0 ∧ k + 1 ≤ ramp then -1 else (t0 : Int))) :=
      fun a1 a2 a3 a4 a5 => ⟨a1, a2, a3, a4, by omega, a5⟩
    have same : (k ≠ ramp ∨ t ≠ t0) → o2[ramp]? = some (if t = t0 ∧ k + 1 ≤ ramp then -1 else (t0 : Int)) := by
      intro h
      rw [q3]
      by_cases h1 : t = t0
      · have hne : k ≠ ramp := by rcases h with h | h; exact h; exact absurd h1 h
        by_cases h2 : k ≤ ramp
        · rw [if_pos ⟨h1, h2⟩, if_pos ⟨h1, by omega⟩]
        · rw [if_neg (fun x => h2 x.2), if_neg (fun x => h2 (by omega))]
      · rw [if_neg (fun x => h1 x.1), if_neg (fun x => h1 x.1)]
    cases v
    · (conv => whnf)
      (repeat (first | (refine numP.mk ?_ ?_; exact fN; conv => whnf) | ((first | apply loadP_get | apply loadP_agg' | apply storeP_getR); exact atT; rfl; conv => whnf) | ((first | apply loadP_cells0 | apply loadP_cellsA | apply idxP_sl); (first | exact ceC | exact slC); (first | rfl | assumption); (try intro _ _ _); conv => whnf) | (apply loadP_cells; exact ceC; rfl; conv => whnf)))
      refine ⟨(k + 1, o2), ⟨rfl, rfl, rfl, rfl, rfl, rfl, rfl, trivial⟩, next e3 ko3 lo3 kn3 (same ?_), by simp only; omega⟩
      by_cases h : t = t0
      · left; rintro rfl; rw [(p1 h).1] at hv; cases hv
      · exact .inr h
    · (conv => whnf)
      refine idxP_slice (by omega) (by omega) ?_
      (conv => whnf)
      refine loadP_cellsF (o := 0 + k * 1) (f := 0) (vs := encI u) (ko3.cells (fun _ _ => rfl) hu) (by show 0 + ((k : Int)).toNat * 1 = _; simp) rfl ?_
      (conv => whnf)
      refine ifP.mk (fun (a2 : u < 0) => ?_) (fun (a2 : ¬ u < 0) => ?_)
      · (conv => whnf)
        (repeat (first | (refine numP.mk ?_ ?_; exact fN; conv => whnf) | ((first | apply loadP_get | apply loadP_agg' | apply storeP_getR); exact atT; rfl; conv => whnf) | ((first | apply loadP_cells0 | apply loadP_cellsA | apply idxP_sl); (first | exact ceC | exact slC); (first | rfl | assumption); (try intro _ _ _); conv => whnf) | (apply loadP_cells; exact ceC; rfl; conv => whnf)))
        refine idxP_slice (by omega) (by omega) ?_
        (conv => whnf)
        refine storeP_elem (enc := encI) (l := o2) (k := k) (f := 0) (x := u) (y := (t : Int)) ko3 (fun _ _ => rfl) hu (by show 0 + ((k : Int)).toNat * 1 = _; simp) rfl (by decide) rfl rfl ?_
        (conv => whnf)
        (repeat (first | (refine numP.mk ?_ ?_; exact fN; conv => whnf) | ((first | apply loadP_get | apply loadP_agg' | apply storeP_getR); exact atT; rfl; conv => whnf) | ((first | apply loadP_cells0 | apply loadP_cellsA | apply idxP_sl); (first | exact ceC | exact slC); (first | rfl | assumption); (try intro _ _ _); conv => whnf) | (apply loadP_cells; exact ceC; rfl; conv => whnf)))
        refine ⟨(k + 1, o2.set k (t : Int)), ⟨rfl, rfl, rfl, rfl, rfl, rfl, rfl, trivial⟩, next (e3.set (by omega)) (.setSelf ko3.lt) (by rw [List.length_set]; exact lo3) (kn3.setNe hne) ?_, by simp only; omega⟩
        by_cases hkr : k = ramp
        · subst hkr
          rw [List.getElem?_set_self (by omega)]
          rw [hu] at q3
          by_cases h1 : t = t0
          · subst h1; rw [if_neg (by omega)]
          · rw [if_neg (fun x => h1 x.1)] at q3; simp at q3; omega
        · rw [List.getElem?_set_ne hkr]
          exact same (.inl hkr)
      · (conv => whnf)
        (repeat (first | (refine numP.mk ?_ ?_; exact fN; conv => whnf) | ((first | apply loadP_get | apply loadP_agg' | apply storeP_getR); exact atT; rfl; conv => whnf) | ((first | apply loadP_cells0 | apply loadP_cellsA | apply idxP_sl); (first | exact ceC | exact slC); (first | rfl | assumption); (try intro _ _ _); conv => whnf) | (apply loadP_cells; exact ceC; rfl; conv => whnf)))
        refine ⟨(k + 1, o2), ⟨rfl, rfl, rfl, rfl, rfl, rfl, rfl, trivial⟩, next e3 ko3 lo3 kn3 (same ?_), by simp only; omega⟩
        by_cases h : t = t0
        · left; rintro rfl
          rw [hu, if_pos ⟨h, Nat.le_refl _⟩] at q3
          simp at q3; omega
        · exact .inr h
  · have hkd : k = c.nd := by omega
    have q4 : o2[ramp]? = some (t0 : Int) := by rw [q3, if_neg (fun x => by omega)]
    have st3 := hs.ext e3
    have bx3 := st3.box
    (conv => whnf)
    (repeat (first | (refine numP.mk ?_ ?_; exact fN; conv => whnf) | ((first | apply loadP_get | apply loadP_agg' | apply storeP_getR); exact atT; rfl; conv => whnf) | ((first | apply loadP_cells0 | apply loadP_cellsA | apply idxP_sl); (first | exact ceC | exact slC); (first | rfl | assumption); (try intro _ _ _); conv => whnf) | (apply loadP_cells; exact ceC; rfl; conv => whnf)))
    refine ifP.mk (fun (a2 : (t : Int) + 1 = (c.nt : Int)) => ?_) (fun (a2 : ¬ (t : Int) + 1 = (c.nt : Int)) => ?_)
    · (conv => whnf)
      exact h1 _ _ o2 e3 ko3 lo3 (by rw [q4]; rfl)
    (conv => whnf)
    refine makeP_ok (by omega) (by omega) (by omega) ?_
    (conv => whnf)
    (repeat (first | (refine numP.mk ?_ ?_; exact fN; conv => whnf) | ((first | apply loadP_get | apply loadP_agg' | apply storeP_getR); exact atT; rfl; conv => whnf) | ((first | apply loadP_cells0 | apply loadP_cellsA | apply idxP_sl); (first | exact ceC | exact slC); (first | rfl | assumption); (try intro _ _ _); conv => whnf) | (apply loadP_cells; exact ceC; rfl; conv => whnf)))
    refine loop_pins (CallMono.acall hB) (σ := Nat × List Bool)
      (fun z => [(0, .pointer (some ⟨bs, 0, none⟩)), (5, .slice (some ⟨bo, 0, none⟩) c.nd c.nd), (7, .int .i64 ((t : Int) + 1)), (10, .slice (some ⟨H3.size, 0, none⟩) c.nd c.nd), (76, .slice (some ⟨bn, 0, none⟩) c.nd c.nd), (77, .int .i64 (c.nd : Int)), (78, .int .i64 (z.1 : Int))])
      (fun z H4 => Ext H3 H4 ∧ At H4 H3.size (.cells false 1 (z.2.flatMap encBo)) ∧ z.2.length = c.nd ∧ z.1 ≤ c.nd) (fun z => c.nd - z.1) (0, List.replicate c.nd false) ?_ ?_ ?_
    · exact ⟨rfl, rfl, rfl, rfl, rfl, rfl, rfl, trivial⟩
    · exact ⟨(Ext.refl _).push, by rw [← hrep]; exact At.self, by simp, Nat.zero_le _⟩
    rintro ⟨k5, nx⟩ E H4 ⟨e4, kx4, lx4, hk5⟩
    simp only at e4 kx4 lx4 hk5
    have e04 := e3.trans e4
    have st4 := hs.ext e04
    have bx4 := st4.box
    have kn4 := e4.at' _ _ kn3
    have nl := st4.nearTop.len
    have nl2 := st4.nearLen
    (conv => whnf)
    refine ifP.mk (fun (hlt : (k5 : Int) < (c.nd : Int)) => ?_) (fun (hge : ¬ (k5 : Int) < (c.nd : Int)) => ?_)
    · have hk' : k5 < c.nd := by omega
      obtain ⟨v, hv⟩ : ∃ v, now[k5]? = some v := ⟨now[k5]'(by omega), by simp⟩
      obtain ⟨row, hrow⟩ : ∃ row, near[k5]? = some row := ⟨near[k5]'(by omega), by simp⟩
      have nt4 := st4.nearTop
      have hrowm := st4.nears row (List.mem_of_getElem? hrow)
      have rlen := hrowm.1.len
      (conv => whnf)
      refine idxP_slice (by omega) (by omega) ?_
      (conv => whnf)
      refine loadP_cellsF (o := 0 + k5 * 1) (f := 0) (vs := encBo v) (kn4.cells (fun _ _ => rfl) hv) (by show 0 + ((k5 : Int)).toNat * 1 = _; simp) rfl ?_
      (conv => whnf)
      (repeat (first | (refine numP.mk ?_ ?_; exact fN; conv => whnf) | ((first | apply loadP_get | apply loadP_agg' | apply storeP_getR); exact atT; rfl; conv => whnf) | ((first | apply loadP_cells0 | apply loadP_cellsA | apply idxP_sl); (first | exact ceC | exact slC); (first | rfl | assumption); (try intro _ _ _); conv => whnf) | (apply loadP_cells; exact ceC; rfl; conv => whnf)))
      refine loop_pins (CallMono.acall hB) (σ := Nat × List Bool)
        (fun z => [(0, .pointer (some ⟨bs, 0, none⟩)), (5, .slice (some ⟨bo, 0, none⟩) c.nd c.nd), (7, .int .i64 ((t : Int) + 1)), (10, .slice (some ⟨H3.size, 0, none⟩) c.nd c.nd), (12, .bool v), (76, .slice (some ⟨bn, 0, none⟩) c.nd c.nd), (77, .int .i64 (c.nd : Int)), (78, .int .i64 (k5 : Int)), (89, .slice row.p row.n row.c), (90, .int .i64 (row.n : Int)), (91, .int .i64 (z.1 : Int))])
        (fun z H5 => Ext H3 H5 ∧ At H5 H3.size (.cells false 1 (z.2.flatMap encBo)) ∧ z.2.length = c.nd ∧ z.1 ≤ row.n) (fun z => row.n - z.1) (0, nx) ?_ ?_ ?_
      · exact ⟨rfl, rfl, rfl, rfl, rfl, rfl, rfl, rfl, rfl, rfl, rfl, trivial⟩
      · exact ⟨e4, kx4, lx4, Nat.zero_le _⟩
      rintro ⟨j, ny⟩ E H5 ⟨e5, kx5, lx5, hj⟩
      simp only at e5 kx5 lx5 hj
      have e05 := e3.trans e5
      have st5 := hs.ext e05
      have bx5 := st5.box
      have ct5 := st5.canTop
      have cl5 := ct5.len
      have cl6 := st5.canLen
      (conv => whnf)
      refine ifP.mk (fun (hlt : (j : Int) < (row.n : Int)) => ?_) (fun (hge : ¬ (j : Int) < (row.n : Int)) => ?_)
      · obtain ⟨x, hx⟩ : ∃ x, row.l[j]? = some x := ⟨row.l[j]'(by omega), by simp⟩
        have rs5 := (st5.nears row (List.mem_of_getElem? hrow)).1
        have hlt' : j < row.n := by omega
        have bx1 := hrowm.2.1 x (List.mem_of_getElem? hx)
        have rn7 := hrowm.2.2
        obtain ⟨q, hq⟩ : ∃ q, ny[x.toNat]? = some q := ⟨ny[x.toNat]'(by omega), by simp⟩
        have lk5 := kx5.lt
        have inv : ∀ val : Bool, Ext H3 (H5.set H3.size (.cells false 1 ((ny.set x.toNat val).flatMap encBo))) ∧ At (H5.set H3.size (.cells false 1 ((ny.set x.toNat val).flatMap encBo))) H3.size (.cells false 1 ((ny.set x.toNat val).flatMap encBo)) ∧ (ny.set x.toNat val).length = c.nd ∧ j + 1 ≤ row.n :=
          fun val => ⟨e5.set (Nat.le_refl _), .setSelf lk5, by rw [List.length_set]; exact lx5, by omega⟩
        (conv => whnf)
        (repeat (first | (refine numP.mk ?_ ?_; exact fN; conv => whnf) | ((first | apply loadP_get | apply loadP_agg' | apply storeP_getR); exact atT; rfl; conv => whnf) | ((first | apply loadP_cells0 | apply loadP_cellsA | apply idxP_sl); (first | exact ceC | exact slC); (first | rfl | assumption); (try intro _ _ _); conv => whnf) | (apply loadP_cells; exact ceC; rfl; conv => whnf)))
        refine idxP_slice bx1.1 bx1.2 ?_
        (conv => whnf)
        refine loadP_cellsF (o := 0 + x.toNat * 1) (f := 0) (vs := encBo q) (kx5.cells (fun _ _ => rfl) hq) (by show 0 + x.toNat * 1 = _; omega) rfl ?_
        cases q
        · cases v
          · skip
            (conv => whnf)
            refine idxP_slice bx1.1 bx1.2 ?_
            (conv => whnf)
            refine storeP_elem (enc := encBo) (l := ny) (k := x.toNat) (f := 0) (x := false) (y := false) kx5 (fun _ _ => rfl) hq (by show 0 + x.toNat * 1 = _; omega) rfl (by decide) rfl rfl ?_
            (conv => whnf)
            (repeat (first | (refine numP.mk ?_ ?_; exact fN; conv => whnf) | ((first | apply loadP_get | apply loadP_agg' | apply storeP_getR); exact atT; rfl; conv => whnf) | ((first | apply loadP_cells0 | apply loadP_cellsA | apply idxP_sl); (first | exact ceC | exact slC); (first | rfl | assumption); (try intro _ _ _); conv => whnf) | (apply loadP_cells; exact ceC; rfl; conv => whnf)))
            exact ⟨(j + 1, ny.set x.toNat false), ⟨rfl, rfl, rfl, rfl, rfl, rfl, rfl, rfl, rfl, rfl, rfl, trivial⟩, inv false, by simp only; omega⟩
          · obtain ⟨cr, hcr⟩ : ∃ cr, can[t + 1]? = some cr := ⟨can[t + 1]'(by omega), by simp⟩
            have crm := st5.cans cr (List.mem_of_getElem? hcr)
            have crl := crm.1.len
            obtain ⟨r, hr'⟩ : ∃ r, cr.l[x.toNat]? = some r := ⟨cr.l[x.toNat]'(by have := crm.2; omega), by simp⟩
            (conv => whnf)
            (repeat (first | (refine numP.mk ?_ ?_; exact fN; conv => whnf) | ((first | apply loadP_get | apply loadP_agg' | apply storeP_getR); exact atT; rfl; conv => whnf) | ((first | apply loadP_cells0 | apply loadP_cellsA | apply idxP_sl); (first | exact ceC | exact slC); (first | rfl | assumption); (try intro _ _ _); conv => whnf) | (apply loadP_cells; exact ceC; rfl; conv => whnf)))
            refine idxP_slj (i := x.toNat) (by show x = (x.toNat : Int); omega) crm.1 hr' fun b7 o7 hc7 => ?_
            (conv => whnf)
            (repeat (first | (refine numP.mk ?_ ?_; exact fN; conv => whnf) | ((first | apply loadP_get | apply loadP_agg' | apply storeP_getR); exact atT; rfl; conv => whnf) | ((first | apply loadP_cells0 | apply loadP_cellsA | apply idxP_sl); (first | exact ceC | exact slC); (first | rfl | assumption); (try intro _ _ _); conv => whnf) | (apply loadP_cells; exact ceC; rfl; conv => whnf)))
            (conv => whnf)
            refine idxP_slice bx1.1 bx1.2 ?_
            (conv => whnf)
            refine storeP_elem (enc := encBo) (l := ny) (k := x.toNat) (f := 0) (x := false) (y := r) kx5 (fun _ _ => rfl) hq (by show 0 + x.toNat * 1 = _; omega) rfl (by decide) rfl rfl ?_
            (conv => whnf)
            (repeat (first | (refine numP.mk ?_ ?_; exact fN; conv => whnf) | ((first | apply loadP_get | apply loadP_agg' | apply storeP_getR); exact atT; rfl; conv => whnf) | ((first | apply loadP_cells0 | apply loadP_cellsA | apply idxP_sl); (first | exact ceC | exact slC); (first | rfl | assumption); (try intro _ _ _); conv => whnf) | (apply loadP_cells; exact ceC; rfl; conv => whnf)))
            exact ⟨(j + 1, ny.set x.toNat r), ⟨rfl, rfl, rfl, rfl, rfl, rfl, rfl, rfl, rfl, rfl, rfl, trivial⟩, inv r, by simp only; omega⟩
        · skip
          (conv => whnf)
          refine idxP_slice bx1.1 bx1.2 ?_
          (conv => whnf)
          refine storeP_elem (enc := encBo) (l := ny) (k := x.toNat) (f := 0) (x := true) (y := true) kx5 (fun _ _ => rfl) hq (by show 0 + x.toNat * 1 = _; omega) rfl (by decide) rfl rfl ?_
          (conv => whnf)
          (repeat (first | (refine numP.mk ?_ ?_; exact fN; conv => whnf) | ((first | apply loadP_get | apply loadP_agg' | apply storeP_getR); exact atT; rfl; conv => whnf) | ((first | apply loadP_cells0 | apply loadP_cellsA | apply idxP_sl); (first | exact ceC | exact slC); (first | rfl | assumption); (try intro _ _ _); conv => whnf) | (apply loadP_cells; exact ceC; rfl; conv => whnf)))
          exact ⟨(j + 1, ny.set x.toNat true), ⟨rfl, rfl, rfl, rfl, rfl, rfl, rfl, rfl, rfl, rfl, rfl, trivial⟩, inv true, by simp only; omega⟩
      · (conv => whnf)
        (repeat (first | (refine numP.mk ?_ ?_; exact fN; conv => whnf) | ((first | apply loadP_get | apply loadP_agg' | apply storeP_getR); exact atT; rfl; conv => whnf) | ((first | apply loadP_cells0 | apply loadP_cellsA | apply idxP_sl); (first | exact ceC | exact slC); (first | rfl | assumption); (try intro _ _ _); conv => whnf) | (apply loadP_cells; exact ceC; rfl; conv => whnf)))
        exact ⟨(k5 + 1, ny), ⟨rfl, rfl, rfl, rfl, rfl, rfl, rfl, trivial⟩, ⟨e5, kx5, lx5, by simp only; omega⟩, by simp only; omega⟩
    · (conv => whnf)
      (repeat (first | (refine numP.mk ?_ ?_; exact fN; conv => whnf) | ((first | apply loadP_get | apply loadP_agg' | apply storeP_getR); exact atT; rfl; conv => whnf) | ((first | apply loadP_cells0 | apply loadP_cellsA | apply idxP_sl); (first | exact ceC | exact slC); (first | rfl | assumption); (try intro _ _ _); conv => whnf) | (apply loadP_cells; exact ceC; rfl; conv => whnf)))
      refine ⟨(t + 1, H3.size, nx, o2), ⟨rfl, rfl, rfl, rfl, trivial⟩, ⟨e04, e4.at' _ _ ko3, lo3, kx4, lx4, e3.size, ?_, by simp only; omega, by simp only; omega, fun h => by simp only at h; omega, fun _ => q4⟩, by simp only; omega⟩
      have := ko3.lt
      show H3.size ≠ bo
      omega
end LV
namespace LV
open Go Ab
set_option maxRecDepth 100000

theorem growL_has {l : List (Int × Int)} {k : Nat} (hl : ∀ s ∈ l, s.1 ≤ s.2 ∧ s.2 < (k : Int)) (t : Int) : (∃ s ∈ growL l k, s.1 ≤ t ∧ t ≤ s.2) ↔ (∃ s ∈ l, s.1 ≤ t ∧ t ≤ s.2) ∨ t = k := by
  constructor
  · rintro ⟨s, hs, h1, h2⟩
    rcases growL_mem hs with h | rfl | ⟨s0, h0, h3, rfl⟩
    · exact .inl ⟨s, h, h1, h2⟩
    · exact .inr (by simp only at h1 h2; omega)
    · by_cases ht : t = k
      · exact .inr ht
      · exact .inl ⟨s0, h0, h1, by simp only at h2; omega⟩
  · unfold growL
    cases hlast : l.getLast? with
    | none =>
      have hn := List.getLast?_eq_none_iff.1 hlast
      subst hn
      rintro (⟨s, hs, _⟩ | h)
      · cases hs
      · exact ⟨(k, k), by simp, by simp only; omega, by simp only; omega⟩
    | some s0 =>
      simp only
      have h0 := hl s0 (List.mem_of_getLast? hlast)
      have hx : l[l.length - 1]? = some s0 := by rw [← List.getLast?_eq_getElem?]; exact hlast
      have hlen := (List.getElem?_eq_some_iff.1 hx).1
      split
      · rename_i he
        have hm : (s0.1, (k : Int)) ∈ l.set (l.length - 1) (s0.1, (k : Int)) := List.mem_of_getElem? (List.getElem?_set_self hlen)
        rintro (⟨s, hs, h1, h2⟩ | h)
        · obtain ⟨i, hi1, hi2⟩ := List.getElem_of_mem hs
          by_cases hi : i = l.length - 1
          · have : s = s0 := by subst hi; rw [List.getElem?_eq_getElem hi1, hi2] at hx; exact Option.some.inj hx
            subst this
            exact ⟨_, hm, h1, by simp only; omega⟩
          · refine ⟨s, List.mem_of_getElem? (i := i) ?_, h1, h2⟩
            rw [List.getElem?_set_ne (Ne.symm hi), List.getElem?_eq_getElem hi1, hi2]
        · exact ⟨_, hm, by simp only; omega, by simp only; omega⟩
      · rintro (⟨s, hs, h1, h2⟩ | h)
        · exact ⟨s, by simp [hs], h1, h2⟩
        · exact ⟨(k, k), by simp, by simp only; omega, by simp only; omega⟩

def opL (rd : List Bool) : Nat → List (Int × Int)
  | 0 => []
  | k + 1 => if rd[k]? = some true then growL (opL rd k) k else opL rd k

theorem opL_len (rd : List Bool) : ∀ k, (opL rd k).length ≤ k
  | 0 => by simp [opL]
  | k + 1 => by
    have ih := opL_len rd k
    rw [opL]
    split
    · have := growL_len (opL rd k) k; omega
    · omega

theorem opL_in (rd : List Bool) : ∀ k, ∀ s ∈ opL rd k, s.1 ≤ s.2 ∧ s.2 < (k : Int)
  | 0, s, h => by simp [opL] at h
  | k + 1, s, h => by
    have ih := opL_in rd k
    rw [opL] at h
    split at h
    · rcases growL_mem h with h | rfl | ⟨s0, h0, h1, rfl⟩
      · have := ih s h; omega
      · simp only; omega
      · have := ih s0 h0; simp only; omega
    · have := ih s h; omega

theorem opL_has (rd : List Bool) : ∀ (k t : Nat), (∃ s ∈ opL rd k, s.1 ≤ (t : Int) ∧ (t : Int) ≤ s.2) ↔ t < k ∧ rd[t]? = some true
  | 0, t => by simp [opL]
  | k + 1, t => by
    have ih := opL_has rd k t
    rw [opL]
    split
    · rename_i h
      rw [growL_has (opL_in rd k), ih]
      constructor
      · rintro (⟨h1, h2⟩ | h1)
        · exact ⟨by omega, h2⟩
        · have : t = k := by omega
          subst this; exact ⟨by omega, h⟩
      · rintro ⟨h1, h2⟩
        by_cases hk : t = k
        · exact .inr (by omega)
        · exact .inl ⟨by omega, h2⟩
    · rename_i h
      rw [ih]
      constructor
      · rintro ⟨h1, h2⟩; exact ⟨by omega, h2⟩
      · rintro ⟨h1, h2⟩
        by_cases hk : t = k
        · subst hk; exact absurd h2 h
        · exact ⟨by omega, h2⟩

variable {B : CallPred} (hB : BaseMono B)
include hB

/-- Reach of what is there. -/
theorem s30 {c : Cht} {b : Cls} {r : Rmp} {t : Nat} {ramp : Nat} {H : Heap} {R : Value → Heap → Prop} (hc : ChtAt H c) (hW : At H 0 (.cells true 0 wyL)) (hM : ∀ (n : Nat) (x : Int) H R, n ≤ 144 → x = (n : Int) → At H 0 (.cells true 0 wyL) → R (.tuple ⟨[.int .u64 0, .int .u64 (n : Int)]⟩) H → ACall AP B (.fn 180) [.int .u64 1, .int .u64 x] H R)
    (ok : ChtOk c) (okb : ClsOk b) (okr : RmpOk c r) (hr : r.cell = (ramp : Int)) (ht : t < c.nt)
    (h1 : ∀ H' p cp (out : List Int), Ext H H' → SlP H' 1 encI p c.nd out → (Rd c b r t → out[ramp]? = some (t : Int)) → (¬ Rd c b r t → out[ramp]? = some (-1)) → R (.tuple ⟨[.slice p c.nd cp, .int .i64 0]⟩) H') :
    ACall AP B (.fn 30) [.agg ⟨encC c⟩, .agg ⟨encK b⟩, .agg ⟨encR r⟩, .int .i64 (t : Int)] H R := by
  have rc := okr.cell
  (refine run_fn hB (a := a30) ap30 (by decide +kernel) rfl (by decide) ?_; conv => whnf)
  (repeat (first | (refine numP.mk ?_ ?_; exact fN; conv => whnf) | ((first | apply loadP_get | apply loadP_agg' | apply storeP_getR); exact atT; rfl; conv => whnf) | ((first | apply loadP_cells0 | apply loadP_cellsA | apply idxP_sl); (first | exact ceC | exact slC); (first | rfl | assumption); (try intro _ _ _); conv => whnf) | (apply loadP_cells; exact ceC; rfl; conv => whnf)))
  generalize hH : ((H.push _).push _).push _ = H1
  have e1 : Ext H H1 := by rw [← hH]; exact exT
  clear hH
  refine callP_fn ?_
  refine s70 hB (hc.ext e1) (e1.at' _ _ hW) ok okb okr (by omega) (by decide) fun H2 bs br rd pc nc cc can pn nn cn near e2 rok hs => ?_
  have e02 := e1.trans e2
  rw [hr] at hs
  have rl := rok.len
  obtain ⟨w, hw⟩ : ∃ w, rd[t]? = some w := ⟨rd[t]'(by omega), by simp⟩
  have hrd : w = true ↔ Rd c b r t := by
    have := rok.iff t ht
    rw [hw] at this
    unfold Rd
    rw [← this]; simp
  (conv => whnf)
  (refine ifP_n (by decide) ?_; conv => whnf)
  (repeat (first | (refine numP.mk ?_ ?_; exact fN; conv => whnf) | ((first | apply loadP_get | apply loadP_agg' | apply storeP_getR); exact atT; rfl; conv => whnf) | ((first | apply loadP_cells0 | apply loadP_cellsA | apply idxP_sl); (first | exact ceC | exact slC); (first | rfl | assumption); (try intro _ _ _); conv => whnf) | (apply loadP_cells; exact ceC; rfl; conv => whnf)))
  refine callP_fn ?_
  refine s75 hB (e02.at' _ _ hW) hM hs ok (by omega) ht hw fun H3 bo out e3 ko lo q => ?_
  (conv => whnf)
  have sl := ko.slP (enc := encI) (fun _ _ => rfl)
  rw [lo] at sl
  refine h1 _ _ _ out (e02.trans e3) sl (fun h => ?_) (fun h => ?_)
  · rw [q, if_pos (hrd.2 h)]
  · rw [q, if_neg (fun x => h (hrd.1 x))]

/-- Open of what is there. -/
theorem s29 {c : Cht} {b : Cls} {r : Rmp} {H : Heap} {R : Value → Heap → Prop} (hc : ChtAt H c) (hW : At H 0 (.cells true 0 wyL)) (ok : ChtOk c) (okb : ClsOk b) (okr : RmpOk c r)
    (h1 : ∀ H' p cp (l : List (Int × Int)), Ext H H' → SlP H' 2 encS p l.length l → l.length ≤ 60 → (∀ t : Nat, t < c.nt → ((∃ s ∈ l, s.1 ≤ (t : Int) ∧ (t : Int) ≤ s.2) ↔ Rd c b r t)) → R (.tuple ⟨[.slice p l.length cp, .int .i64 0]⟩) H') :
    ACall AP B (.fn 29) [.agg ⟨encC c⟩, .agg ⟨encK b⟩, .agg ⟨encR r⟩] H R := by
  have okt := ok.nt
  (refine run_fn hB (a := a29) ap29 (by decide +kernel) rfl (by decide) ?_; conv => whnf)
  (repeat (first | (refine numP.mk ?_ ?_; exact fN; conv => whnf) | ((first | apply loadP_get | apply loadP_agg' | apply storeP_getR); exact atT; rfl; conv => whnf) | ((first | apply loadP_cells0 | apply loadP_cellsA | apply idxP_sl); (first | exact ceC | exact slC); (first | rfl | assumption); (try intro _ _ _); conv => whnf) | (apply loadP_cells; exact ceC; rfl; conv => whnf)))
  generalize hH : ((H.push _).push _).push _ = H1
  have e1 : Ext H H1 := by rw [← hH]; exact exT
  clear hH
  refine callP_fn ?_
  refine s70 hB (hc.ext e1) (e1.at' _ _ hW) ok okb okr (by omega) (by decide) fun H2 bs br rd pc nc cc can pn nn cn near e2 rok hs => ?_
  have e02 := e1.trans e2
  have rl := rok.len
  have bx2 := hs.box
  have kr2 := hs.ready
  (conv => whnf)
  (refine ifP_n (by decide) ?_; conv => whnf)
  (repeat (first | (refine numP.mk ?_ ?_; exact fN; conv => whnf) | ((first | apply loadP_get | apply loadP_agg' | apply storeP_getR); exact atT; rfl; conv => whnf) | ((first | apply loadP_cells0 | apply loadP_cellsA | apply idxP_sl); (first | exact ceC | exact slC); (first | rfl | assumption); (try intro _ _ _); conv => whnf) | (apply loadP_cells; exact ceC; rfl; conv => whnf)))
  refine loop_pins (CallMono.acall hB) (σ := Nat × Option Addr × Nat)
    (fun z => [(10, .slice z.2.1 (opL rd z.1).length z.2.2), (27, .slice (some ⟨br, 0, none⟩) c.nt c.nt), (28, .int .i64 (c.nt : Int)), (29, .int .i64 (z.1 : Int))])
    (fun z H' => Ext H2 H' ∧ Mine H2 H' 2 z.2.1 (opL rd z.1).length z.2.2 ((opL rd z.1).flatMap encS) ∧ z.1 ≤ c.nt) (fun z => c.nt - z.1) (0, none, 0) ?_ ?_ ?_
  · exact ⟨rfl, rfl, rfl, rfl, trivial⟩
  · exact ⟨Ext.refl _, .nil, Nat.zero_le _⟩
  rintro ⟨k, p, cp⟩ E H' ⟨e', hm, hk⟩
  simp only at e' hm hk
  have hol := opL_len rd k
  have kr' := e'.at' _ _ kr2
  (conv => whnf)
  refine ifP.mk (fun (hlt : (k : Int) < (c.nt : Int)) => ?_) (fun (hge : ¬ (k : Int) < (c.nt : Int)) => ?_)
  rotate_left
  · have : k = c.nt := by omega
    subst this
    (conv => whnf)
    refine h1 _ _ _ (opL rd c.nt) (e02.trans e') (hm.own.srcOf.slP rfl fun _ _ => rfl) (by omega) fun t ht => ?_
    rw [opL_has, rok.iff t ht]
    unfold Rd
    exact ⟨fun h => h.2, fun h => ⟨ht, h⟩⟩
  obtain ⟨v, hv⟩ : ∃ v, rd[k]? = some v := ⟨rd[k]'(by omega), by simp⟩
  (conv => whnf)
  refine idxP_slice (by omega) (by omega) ?_
  (conv => whnf)
  refine loadP_cellsF (o := 0 + k * 1) (f := 0) (vs := encBo v) (kr'.cells (fun _ _ => rfl) hv) (by show 0 + ((k : Int)).toNat * 1 = _; simp) rfl ?_
  cases v
  · have ho : opL rd (k + 1) = opL rd k := by rw [opL, if_neg (by rw [hv]; simp)]
    (conv => whnf)
    (repeat (first | (refine numP.mk ?_ ?_; exact fN; conv => whnf) | ((first | apply loadP_get | apply loadP_agg' | apply storeP_getR); exact atT; rfl; conv => whnf) | ((first | apply loadP_cells0 | apply loadP_cellsA | apply idxP_sl); (first | exact ceC | exact slC); (first | rfl | assumption); (try intro _ _ _); conv => whnf) | (apply loadP_cells; exact ceC; rfl; conv => whnf)))
    refine ⟨(k + 1, p, cp), ⟨(by simp only [ho]; rfl), rfl, rfl, rfl, trivial⟩, ⟨e', by simp only [ho]; exact hm, by simp only; omega⟩, by simp only; omega⟩
  have ho : opL rd (k + 1) = growL (opL rd k) k := by rw [opL, if_pos hv]
  generalize opL rd k = l at *
  (conv => whnf)
  refine ifP.mk (fun (a1 : (0 : Int) < (l.length : Int)) => ?_) (fun (a1 : ¬ (0 : Int) < (l.length : Int)) => ?_)
  · (conv => whnf)
    obtain ⟨s, hs'⟩ : ∃ s, l.getLast? = some s := by
      cases h : l.getLast? with
      | none => rw [List.getLast?_eq_none_iff.1 h] at a1; simp at a1
      | some s => exact ⟨s, rfl⟩
    have hx : l[l.length - 1]? = some s := by rw [← List.getLast?_eq_getElem?]; exact hs'
    obtain ⟨bm, rfl, rfl, hb, hat, hl⟩ := hm.inv (by omega)
    have tn : ((l.length : Int) - 1).toNat = l.length - 1 := by omega
    (repeat (first | (refine numP.mk ?_ ?_; exact fN; conv => whnf) | ((first | apply loadP_get | apply loadP_agg' | apply storeP_getR); exact atT; rfl; conv => whnf) | ((first | apply loadP_cells0 | apply loadP_cellsA | apply idxP_sl); (first | exact ceC | exact slC); (first | rfl | assumption); (try intro _ _ _); conv => whnf) | (apply loadP_cells; exact ceC; rfl; conv => whnf)))
    refine idxP_slice (by omega) (by omega) ?_
    (conv => whnf)
    refine loadP_cellsF (o := 0 + (l.length - 1) * 2) (f := 1) (vs := encS s) (hat.cells (fun _ _ => rfl) hx) (by rw [tn]) rfl ?_
    (conv => whnf)
    (repeat (first | (refine numP.mk ?_ ?_; exact fN; conv => whnf) | ((first | apply loadP_get | apply loadP_agg' | apply storeP_getR); exact atT; rfl; conv => whnf) | ((first | apply loadP_cells0 | apply loadP_cellsA | apply idxP_sl); (first | exact ceC | exact slC); (first | rfl | assumption); (try intro _ _ _); conv => whnf) | (apply loadP_cells; exact ceC; rfl; conv => whnf)))
    refine ifP.mk (fun (a2 : s.2 = (k : Int) - 1) => ?_) (fun (a2 : ¬ s.2 = (k : Int) - 1) => ?_)
    · (conv => whnf)
      (repeat (first | (refine numP.mk ?_ ?_; exact fN; conv => whnf) | ((first | apply loadP_get | apply loadP_agg' | apply storeP_getR); exact atT; rfl; conv => whnf) | ((first | apply loadP_cells0 | apply loadP_cellsA | apply idxP_sl); (first | exact ceC | exact slC); (first | rfl | assumption); (try intro _ _ _); conv => whnf) | (apply loadP_cells; exact ceC; rfl; conv => whnf)))
      refine idxP_slice (by omega) (by omega) ?_
      (conv => whnf)
      refine storeP_elem (enc := encS) (l := l) (k := l.length - 1) (f := 1) (x := s) (y := (s.1, (k : Int))) hat (fun _ _ => rfl) hx (by rw [tn]; omega) rfl (by decide) rfl rfl ?_
      (conv => whnf)
      (repeat (first | (refine numP.mk ?_ ?_; exact fN; conv => whnf) | ((first | apply loadP_get | apply loadP_agg' | apply storeP_getR); exact atT; rfl; conv => whnf) | ((first | apply loadP_cells0 | apply loadP_cellsA | apply idxP_sl); (first | exact ceC | exact slC); (first | rfl | assumption); (try intro _ _ _); conv => whnf) | (apply loadP_cells; exact ceC; rfl; conv => whnf)))
      have hg : growL l k = l.set (l.length - 1) (s.1, (k : Int)) := by unfold growL; rw [hs']; simp only [a2, if_true]
      refine ⟨(k + 1, some ⟨bm, 0, none⟩, openCap), ⟨(by simp only [ho, hg, List.length_set]; rfl), rfl, rfl, rfl, trivial⟩, ⟨e'.set (by omega), ?_, by simp only; omega⟩, by simp only; omega⟩
      simp only [ho, hg, List.length_set]
      exact .mk hb (At.setSelf hat.lt) (by have h6 := flat_length (enc := encS) (esz := 2) (l.set (l.length - 1) (s.1, (k : Int))) (fun _ _ => rfl); rw [h6, List.length_set])
    · (conv => whnf)
      (repeat (first | (refine numP.mk ?_ ?_; exact fN; conv => whnf) | ((first | apply loadP_get | apply loadP_agg' | apply storeP_getR); exact atT; rfl; conv => whnf) | ((first | apply loadP_cells0 | apply loadP_cellsA | apply idxP_sl); (first | exact ceC | exact slC); (first | rfl | assumption); (try intro _ _ _); conv => whnf) | (apply loadP_cells; exact ceC; rfl; conv => whnf)))
      have hg : growL l k = l ++ [((k : Int), (k : Int))] := by unfold growL; rw [hs']; simp only; rw [if_neg a2]
      generalize hH : H'.push _ = H7
      have e7 : Ext H' H7 := by rw [← hH]; exact exT
      have kx : At H7 H'.size (.cells false 2 (encS ((k : Int), (k : Int)))) := by rw [← hH]; exact atT
      clear hH
      refine appendP_mine (m := 1) (xs := encS ((k : Int), (k : Int))) (e'.trans e7) (hm.ext e7) (Src.ofAt kx rfl) rfl (by decide) (by decide) (by omega) (by omega) fun H8 e8 _ m8 _ => ?_
      (conv => whnf)
      (repeat (first | (refine numP.mk ?_ ?_; exact fN; conv => whnf) | ((first | apply loadP_get | apply loadP_agg' | apply storeP_getR); exact atT; rfl; conv => whnf) | ((first | apply loadP_cells0 | apply loadP_cellsA | apply idxP_sl); (first | exact ceC | exact slC); (first | rfl | assumption); (try intro _ _ _); conv => whnf) | (apply loadP_cells; exact ceC; rfl; conv => whnf)))
      refine ⟨(k + 1, some ⟨H7.size, 0, none⟩, openCap), ⟨(by simp only [ho, hg, List.length_append, List.length_cons, List.length_nil]; rfl), rfl, rfl, rfl, trivial⟩, ⟨e8, ?_, by simp only; omega⟩, by simp only; omega⟩
      simp only [ho, hg, List.length_append, List.length_cons, List.length_nil, List.flatMap_append]
      exact m8
  · (conv => whnf)
    (repeat (first | (refine numP.mk ?_ ?_; exact fN; conv => whnf) | ((first | apply loadP_get | apply loadP_agg' | apply storeP_getR); exact atT; rfl; conv => whnf) | ((first | apply loadP_cells0 | apply loadP_cellsA | apply idxP_sl); (first | exact ceC | exact slC); (first | rfl | assumption); (try intro _ _ _); conv => whnf) | (apply loadP_cells; exact ceC; rfl; conv => whnf)))
    have h0 : l = [] := List.length_eq_zero_iff.1 (by omega)
    have hg : growL l k = l ++ [((k : Int), (k : Int))] := by rw [h0]; rfl
    generalize hH : H'.push _ = H7
    have e7 : Ext H' H7 := by rw [← hH]; exact exT
    have kx : At H7 H'.size (.cells false 2 (encS ((k : Int), (k : Int)))) := by rw [← hH]; exact atT
    clear hH
    refine appendP_mine (m := 1) (xs := encS ((k : Int), (k : Int))) (e'.trans e7) (hm.ext e7) (Src.ofAt kx rfl) rfl (by decide) (by decide) (by omega) (by omega) fun H8 e8 _ m8 _ => ?_
    (conv => whnf)
    (repeat (first | (refine numP.mk ?_ ?_; exact fN; conv => whnf) | ((first | apply loadP_get | apply loadP_agg' | apply storeP_getR); exact atT; rfl; conv => whnf) | ((first | apply loadP_cells0 | apply loadP_cellsA | apply idxP_sl); (first | exact ceC | exact slC); (first | rfl | assumption); (try intro _ _ _); conv => whnf) | (apply loadP_cells; exact ceC; rfl; conv => whnf)))
    refine ⟨(k + 1, some ⟨H7.size, 0, none⟩, openCap), ⟨(by simp only [ho, hg, List.length_append, List.length_cons, List.length_nil]; rfl), rfl, rfl, rfl, trivial⟩, ⟨e8, ?_, by simp only; omega⟩, by simp only; omega⟩
    simp only [ho, hg, List.length_append, List.length_cons, List.length_nil, List.flatMap_append]
    exact m8
end LV
