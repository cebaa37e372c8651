/- The plain law of the pagers. -/
import Derived.Test.YtfcpgeanbklleaaGreatDoorW13
set_option linter.unusedSectionVars false
set_option linter.unusedSimpArgs false
set_option linter.unusedVariables false
namespace LV
open Go Ab

def stepL (T w : Int) (a : Int) (x : Pg) : Int := if x.hand = w ∧ x.tick ≤ T then x.kind else a
def lastK (T w : Int) (l : List Pg) : Int := l.foldl (stepL T w) 0

def Srt : List Pg → Prop
  | [] => True
  | x :: l => (∀ y ∈ l, x.tick ≤ y.tick) ∧ Srt l

theorem srt_of : ∀ (l : List Pg), (∀ (i : Nat) x y, l[i]? = some x → l[i + 1]? = some y → x.tick ≤ y.tick) → Srt l
  | [], _ => trivial
  | x :: l, h => by
    refine ⟨?_, srt_of l fun i a b ha hb => h (i + 1) a b (by simpa using ha) (by simpa using hb)⟩
    have key : ∀ (k : Nat) y, l[k]? = some y → x.tick ≤ y.tick := by
      intro k
      induction k with
      | zero => intro y hy; exact h 0 x y rfl (by simpa using hy)
      | succ k ih =>
        intro y hy
        have hk : k < l.length := by have := (List.getElem?_eq_some_iff.1 hy).1; omega
        have h1 := ih l[k] (List.getElem?_eq_getElem hk)
        have h2 := h (k + 1) l[k] y (by simp) (by simpa using hy)
        omega
    intro y hy
    obtain ⟨k, hk1, hk2⟩ := List.getElem_of_mem hy
    exact key k y (by rw [List.getElem?_eq_getElem hk1, hk2])

theorem fold_late (T w : Int) : ∀ (l : List Pg) (a : Int), (∀ y ∈ l, T < y.tick) → l.foldl (stepL T w) a = a
  | [], _, _ => rfl
  | x :: l, a, h => by
    have hx := h x (by simp)
    rw [List.foldl_cons, stepL, if_neg (by omega)]
    exact fold_late T w l a fun y hy => h y (by simp [hy])

/-- What holds of every pager. -/
structure QOk (q : Pgr) : Prop where
  last : -200 ≤ q.last ∧ q.last ≤ 400
  quiet : q.called = false → q.answer = 0
  answer : 0 ≤ q.answer ∧ q.answer ≤ 2

theorem stepQ_ok {hands : Int} {q : Pgr} {x : Pg} (h : QOk q) (hx : PgOk hands x) : QOk (stepQ q x) := by
  unfold stepQ
  split
  · exact ⟨hx.tick, by simp, by simp⟩
  · split
    · refine ⟨h.last, fun hc => ?_, ?_⟩
      · rename_i hcl; rw [hcl] at hc; cases hc
      · dsimp only; split <;> omega
    · exact h

theorem q0_ok : QOk q0 := ⟨by decide, fun _ => rfl, by decide⟩

theorem pagersL_ok {hands T : Int} : ∀ (l : List Pg) (qs : List Pgr), (∀ x ∈ l, PgOk hands x) → (∀ q ∈ qs, QOk q) → ∀ q ∈ pagersL T l qs, QOk q
  | [], qs, _, h => h
  | x :: l, qs, hl, h => by
    simp only [pagersL]
    split
    · exact h
    · refine pagersL_ok l _ (fun y hy => hl y (by simp [hy])) ?_
      intro q hq
      rcases List.mem_or_eq_of_mem_set hq with h1 | h1
      · exact h q h1
      · rw [h1]
        refine stepQ_ok ?_ (hl x (by simp))
        rw [List.getD_eq_getElem?_getD]
        cases hg : qs[x.hand.toNat]? with
        | none => exact q0_ok
        | some q' => exact h q' (List.mem_of_getElem? hg)

theorem law4 {hands T w : Int} (hw : 0 ≤ w) : ∀ (l : List Pg) (qs : List Pgr) (a : Int), Srt l → (∀ x ∈ l, PgOk hands x) → (∀ q ∈ qs, QOk q) → qs.length = hands.toNat →
    (∀ q, qs[w.toNat]? = some q → q.answer = 1 → a = 2) → ∀ q, (pagersL T l qs)[w.toNat]? = some q → q.answer = 1 → l.foldl (stepL T w) a = 2
  | [], qs, a, _, _, _, _, ha, q, hq, h1 => ha q hq h1
  | x :: l, qs, a, hs, hl, hqs, hlen, ha, q, hq, h1 => by
    simp only [pagersL] at hq
    have hx := hl x (by simp)
    split at hq
    · rename_i ht
      rw [fold_late]
      · exact ha q hq h1
      · intro y hy
        rcases List.mem_cons.1 hy with rfl | hy
        · exact ht
        · have := hs.1 y hy; omega
    · rename_i ht
      rw [List.foldl_cons]
      have hhand := hx.hand
      have hin : x.hand.toNat < qs.length := by omega
      have hg : qs[x.hand.toNat]? = some qs[x.hand.toNat] := List.getElem?_eq_getElem hin
      refine law4 hw l _ (stepL T w a x) hs.2 (fun y hy => hl y (by simp [hy])) ?_ (by simpa using hlen) ?_ q hq h1
      · intro q' hq'
        rcases List.mem_or_eq_of_mem_set hq' with h2 | h2
        · exact hqs q' h2
        · rw [h2, List.getD_eq_getElem?_getD, hg]
          exact stepQ_ok (hqs _ (List.getElem_mem hin)) hx
      · intro q' hq' h2
        unfold stepL
        by_cases he : x.hand = w
        · rw [if_pos ⟨he, by omega⟩]
          rw [← he, List.getElem?_set_self hin, Option.some.injEq] at hq'
          rw [List.getD_eq_getElem?_getD, hg, Option.getD_some] at hq'
          have hqo := hqs _ (List.getElem_mem hin)
          rw [← hq'] at h2
          unfold stepQ at h2
          split at h2
          · simp at h2
          · split at h2
            · dsimp only at h2
              split at h2
              · assumption
              · omega
            · rename_i hc
              have := hqo.quiet (by simpa using hc)
              omega
        · rw [if_neg (fun h => he h.1)]
          rw [List.getElem?_set_ne (by omega)] at hq'
          exact ha q' hq' h2

theorem again_zero {T ev : Int} : ∀ (l : List Pgr) (k : Nat) (w : Int), w ∈ againL T ev l k → ∃ i q, w = ((k + i : Nat) : Int) ∧ l[i]? = some q ∧ q.answer = 0
  | [], k, w, h => by simp [againL] at h
  | q :: l, k, w, h => by
    simp only [againL, List.mem_append] at h
    rcases h with h | h
    · split at h
      · rename_i hc
        simp at h
        exact ⟨0, q, by simpa using h, rfl, hc.1⟩
      · simp at h
    · obtain ⟨i, q', h1, h2, h3⟩ := again_zero l (k + 1) w h
      exact ⟨i + 1, q', by rw [h1]; congr 1; omega, by simpa using h2, h3⟩

theorem mem_pg {hands tick : Int} {n : Nat} {l : List Pg} (h : PagesOk hands n l tick) : ∀ x ∈ l, PgOk hands x := by
  intro x hx
  obtain ⟨k, hk1, hk2⟩ := List.getElem_of_mem hx
  exact h.all k x (by rw [List.getElem?_eq_getElem hk1, hk2])

theorem q0s_ok (n : Nat) : ∀ q ∈ List.replicate n q0, QOk q := by
  intro q hq
  rw [List.eq_of_mem_replicate hq]
  exact q0_ok

end LV
