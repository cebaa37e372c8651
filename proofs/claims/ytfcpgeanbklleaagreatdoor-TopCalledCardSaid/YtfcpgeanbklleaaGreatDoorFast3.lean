/- The staged evaluator is sound. -/
import Derived.Test.YtfcpgeanbklleaaGreatDoorFast
set_option linter.unusedSectionVars false
set_option linter.unusedSimpArgs false
set_option linter.unusedVariables false
namespace Ab
open Go

/-! ### Operations -/

def ActDoes (op : AOp) (ρ : Operand → Value) (H : Heap) (v : Value) (H' : Heap) : Prop := ∀ (X : CallPred) (K : Value → Heap → Prop), K v H' → actWp X op ρ H K

theorem turnF_ok {h : FH} {b : Nat} {H' : Heap} {k : FH → Out} {r : Out} (n : Near h.heap H' b) (e : turnF h b H' k = r) (hr : r ≠ .bad) : ∃ h' : FH, h'.heap = H' ∧ k h' = r := by
  have fin : ∀ h1 : FH, h1.size = h.size → (∀ i, h1.heap.get i = if i = b then H'.get b else h.heap.get i) →
      (if H'.size = h.size then k h1 else if H'.size = h.size + 1 ∧ b ≠ h.size then match H'.get h.size with
      | some y => pushB h1 y k
      | none => .bad
      else .bad) = r → ∃ h' : FH, h'.heap = H' ∧ k h' = r := by
    intro h1 hs hg e
    split at e
    · rename_i hsz
      refine ⟨h1, heap_ext (fun i => ?_) (by show h1.size = _; omega), e⟩
      rw [hg i]
      split
      · rename_i hi; rw [hi]
      · rename_i hi
        by_cases his : i = h.size
        · rw [his]; exact (n.size hsz (fun e => hi (by rw [his, e]; rfl))).symm
        · exact (n.same i hi his).symm
    · split at e
      · rename_i hsz
        split at e
        · rename_i y hy
          obtain ⟨h', k1, k2, k3⟩ := pushB_ok e hr
          refine ⟨h', ?_, k3⟩
          rw [k1]
          refine heap_ext (fun i => ?_) ?_
          · rw [Heap.get_push]
            have hs1 : h1.heap.size = h.size := hs
            split
            · rename_i hi; rw [hi, hs1]; exact hy.symm
            · rename_i hi
              rw [hg i]
              split
              · rename_i hb; rw [hb]
              · rename_i hb
                exact (n.same i hb (fun e => hi (e.trans hs1.symm))).symm
          · rw [Heap.size_push]; show h1.size + 1 = _; omega
        · exact absurd e.symm hr
      · exact absurd e.symm hr
  unfold turnF at e
  split at e
  · rename_i x hx
    obtain ⟨h1, k1, k2, k3⟩ := setB_ok e hr
    refine fin h1 k2 (fun i => ?_) k3
    rw [k1, Heap.get_set, hx]
  · rename_i hx
    split at e
    · exact absurd e.symm hr
    · rename_i hy
      refine fin h rfl (fun i => ?_) e
      split
      · rename_i hi; rw [hi, hy, hx]
      · rfl

theorem slowAct_ok {n : Nat} {op : AOp} {E : FE} {h : FH} {k : FV → FH → Out} {r : Out} (e : (slowAct n op).run E h k = r) (hr : r ≠ .bad) : ∃ v h', ActDoes op (evE (E.env n)) h.heap (FV.v v) (FH.heap h') ∧ k v h' = r := by
  have hρ : (fun x => ((rd n x).g E).v) = evE (E.env n) := funext fun x => rd_g n x E
  simp only [slowAct, hρ] at e
  split at e
  · rename_i hc
    split at e
    · rename_i v hv
      exact ⟨_, _, fun X K hk => by simp only [actWp, hc, hv, optV]; rw [of2_v] at hk; exact hk, e⟩
    · exact absurd e.symm hr
  · rename_i hc
    split at e
    · rename_i v hv
      exact ⟨_, _, fun X K hk => by simp only [actWp, hc, hv, optV]; rw [of2_v] at hk; exact hk, e⟩
    · exact absurd e.symm hr
  · rename_i hc
    split at e
    · rename_i b f hv
      obtain ⟨h', k1, k2, k3⟩ := pushB_ok e hr
      exact ⟨_, _, fun X K hk => by simp only [actWp, hc, hv]; rw [of2_v, k1] at hk; exact hk, k3⟩
    · exact absurd e.symm hr
  · rename_i hc
    split at e
    · rename_i v H' hv
      obtain ⟨h', k1, k2⟩ := turnF_ok (writeOp_near hv) e hr
      exact ⟨_, _, fun X K hk => by simp only [actWp, hc, hv, optVH]; rw [of2_v, k1] at hk; exact hk, k2⟩
    · exact absurd e.symm hr
  · exact absurd e.symm hr

theorem onP_ok {v : FV} {k : Nat → Nat → Out} {fb r : Out} (e : onP v k fb = r) (hr : r ≠ .bad) : (∃ b o, v = .fp b o ∧ k b o = r) ∨ fb = r := by
  cases v <;> first | exact .inl ⟨_, _, rfl, e⟩ | exact .inr e
theorem onS_ok {v : FV} {k : Nat → Nat → Nat → Nat → Out} {fb r : Out} (e : onS v k fb = r) (hr : r ≠ .bad) : (∃ b o l c, v = .fs b o l c ∧ k b o l c = r) ∨ fb = r := by
  cases v <;> first | exact .inl ⟨_, _, _, _, rfl, e⟩ | exact .inr e
theorem onI_ok {v : FV} {k : Int → Out} {fb r : Out} (e : onI v k fb = r) (hr : r ≠ .bad) : (∃ n, v = .fi n ∧ k n = r) ∨ fb = r := by
  cases v <;> first | exact .inl ⟨_, rfl, e⟩ | exact .inr e
theorem onB_ok {v : FV} {k : Bool → Out} {fb r : Out} (e : onB v k fb = r) (hr : r ≠ .bad) : (∃ n, v = .fb n ∧ k n = r) ∨ fb = r := by
  cases v <;> first | exact .inl ⟨_, rfl, e⟩ | exact .inr e
theorem onG_ok {v : FV} {k : Bool → Out} {fb r : Out} (e : onG v k fb = r) (hr : r ≠ .bad) : (∃ n, v = .fb n ∧ k n = r) ∨ ((∀ n, v.v ≠ .bool n) ∧ fb = r) := by
  cases v <;> first | exact .inl ⟨_, rfl, e⟩ | exact .inr ⟨fun n => by simp [FV.v], e⟩ | skip
  rename_i w
  cases w <;> first | exact absurd e.symm hr | exact .inr ⟨fun n => by simp [FV.v], e⟩
theorem onA_ok {v : FV} {k : List FV → Out} {fb r : Out} (e : onA v k fb = r) (hr : r ≠ .bad) : (∃ n, v = .fa n ∧ k n = r) ∨ fb = r := by
  cases v <;> first | exact .inl ⟨_, rfl, e⟩ | exact .inr e
theorem onT_ok {v : FV} {k : List FV → Out} {fb r : Out} (e : onT v k fb = r) (hr : r ≠ .bad) : (∃ n, v = .ft n ∧ k n = r) ∨ fb = r := by
  cases v <;> first | exact .inl ⟨_, rfl, e⟩ | exact .inr e
theorem onC_ok {b : FBk} {k : Bool → Nat → List FV → Out} {r : Out} (e : onC b k .bad = r) (hr : r ≠ .bad) : ∃ ro n l, b = .cells ro n l ∧ k ro n l = r := by
  cases b <;> first | exact ⟨_, _, _, rfl, e⟩ | exact absurd e.symm hr
theorem natI_ok {i : Int} {k : Nat → Out} {r : Out} (e : natI i k = r) (hr : r ≠ .bad) : ∃ n : Nat, i = (n : Int) ∧ k n = r := by
  cases i with
  | ofNat n => exact ⟨n, rfl, e⟩
  | negSucc n => exact absurd e.symm hr
theorem below_ok {m n : Nat} {k r : Out} (e : below m n k = r) (hr : r ≠ .bad) : m < n ∧ k = r := by
  unfold below at e
  cases h : Nat.ble (Nat.succ m) n with
  | false => rw [h] at e; exact absurd e.symm hr
  | true => rw [h] at e; exact ⟨ble_true h, e⟩

theorem vs_get {l : List FV} {n : Nat} {x : FV} (h : l[n]? = some x) : (FV.vs l)[n]? = some x.v := by simp [vs_eq, h]
theorem vs_drop (l : List FV) (n : Nat) : FV.vs (l.drop n) = (FV.vs l).drop n := by simp [vs_eq]
theorem vs_take (l : List FV) (n : Nat) : FV.vs (l.take n) = (FV.vs l).take n := by simp [vs_eq]
theorem vs_set (l : List FV) (n : Nat) (v : FV) : FV.vs (l.set n v) = (FV.vs l).set n v.v := by simp [vs_eq, List.map_set]

theorem part_ok {agg : Bool} {off size : Nat} {cs : List FV} {k : FV → Out} {r : Out} (e : part agg off size cs k = r) (hr : r ≠ .bad) : ∃ v, partV agg off size (FV.vs cs) = some (FV.v v) ∧ k v = r := by
  cases agg with
  | false =>
    obtain ⟨x, h1, h2⟩ := nthL_ok (show nthL cs off k = r from e) hr
    exact ⟨x, by simp [partV, vs_get h1], h2⟩
  | true =>
    obtain ⟨_, h2⟩ := dropL_ok (show dropL cs off (fun l => takeL l size fun l => k (.fa l)) = r from e) hr
    obtain ⟨_, h4⟩ := takeL_ok h2 hr
    exact ⟨_, by simp [partV, FV.v, vs_take, vs_drop], h4⟩

theorem actF_ok {nt : Nat} {op : AOp} {E : FE} {h : FH} {k : FV → FH → Out} {r : Out} (e : (actF nt op).run E h k = r) (hr : r ≠ .bad) : ∃ v h', ActDoes op (evE (E.env nt)) h.heap (FV.v v) (FH.heap h') ∧ k v h' = r := by
  unfold actF at e
  split at e
  · rename_i x
    exact ⟨_, _, fun X K hk => by rw [rd_g] at hk; exact hk, e⟩
  · rename_i o x y
    obtain ⟨v, h1, h2⟩ := binF_ok e hr
    rw [rd_g, rd_g] at h1
    exact ⟨v, h, fun X K hk => by simp only [actWp, AOp.cls, pureOp, h1, optV]; exact hk, h2⟩
  · rename_i x
    rcases onB_ok e hr with ⟨n, h1, h2⟩ | h2
    · have := rd_g nt x E
      rw [h1] at this
      exact ⟨_, _, fun X K hk => by simp only [actWp, AOp.cls, pureOp, ← this, FV.v, unV, optV]; rw [bNot_eq] at hk; exact hk, h2⟩
    · exact absurd h2.symm hr
  · rename_i off x
    rcases onP_ok e hr with ⟨b, o, h1, h2⟩ | h2
    · have := rd_g nt x E
      rw [h1] at this
      exact ⟨_, _, fun X K hk => by simp only [actWp, AOp.cls, pureOp, ← this, FV.v, optV]; exact hk, h2⟩
    · exact absurd h2.symm hr
  · rename_i off size agg x
    rcases onA_ok e hr with ⟨l, h1, h2⟩ | h2
    · have := rd_g nt x E
      rw [h1] at this
      obtain ⟨v, h3, h4⟩ := part_ok h2 hr
      exact ⟨v, h, fun X K hk => by simp only [actWp, AOp.cls, pureOp, ← this, FV.v, h3, optV]; exact hk, h4⟩
    · exact absurd h2.symm hr
  · rename_i n esz x i
    rcases onP_ok e hr with ⟨b, o, h1, h2⟩ | h2
    · rcases onI_ok h2 hr with ⟨j, h3, h4⟩ | h4
      · obtain ⟨m, rfl, h5⟩ := natI_ok h4 hr
        obtain ⟨h6, h7⟩ := below_ok h5 hr
        have t1 := rd_g nt x E
        have t2 := rd_g nt i E
        rw [h1] at t1; rw [h3] at t2
        exact ⟨_, _, fun X K hk => by
          have : (0 : Int) ≤ (m : Int) ∧ (m : Int) < (n : Int) := by omega
          simp only [actWp, AOp.cls, pureOp, ← t1, ← t2, FV.v, if_pos this, optV]; exact hk, h7⟩
      · exact absurd h4.symm hr
    · exact absurd h2.symm hr
  · rename_i esz x i
    rcases onS_ok e hr with ⟨b, o, l, c, h1, h2⟩ | h2
    · rcases onI_ok h2 hr with ⟨j, h3, h4⟩ | h4
      · obtain ⟨m, rfl, h5⟩ := natI_ok h4 hr
        obtain ⟨h6, h7⟩ := below_ok h5 hr
        have t1 := rd_g nt x E
        have t2 := rd_g nt i E
        rw [h1] at t1; rw [h3] at t2
        exact ⟨_, _, fun X K hk => by
          have : (0 : Int) ≤ (m : Int) ∧ (m : Int) < (l : Int) := by omega
          simp only [actWp, AOp.cls, pureOp, ← t1, ← t2, FV.v, if_pos this, optV]; exact hk, h7⟩
      · exact absurd h4.symm hr
    · exact absurd h2.symm hr
  · rename_i n esz agg x i
    rcases onA_ok e hr with ⟨l, h1, h2⟩ | h2
    · rcases onI_ok h2 hr with ⟨j, h3, h4⟩ | h4
      · obtain ⟨m, rfl, h5⟩ := natI_ok h4 hr
        obtain ⟨h6, h7⟩ := below_ok h5 hr
        obtain ⟨v, h8, h9⟩ := part_ok h7 hr
        have t1 := rd_g nt x E
        have t2 := rd_g nt i E
        rw [h1] at t1; rw [h3] at t2
        exact ⟨v, h, fun X K hk => by
          have : (0 : Int) ≤ (m : Int) ∧ (m : Int) < (n : Int) := by omega
          simp only [actWp, AOp.cls, pureOp, ← t1, ← t2, FV.v, if_pos this, Int.toNat_natCast, h8, optV]; exact hk, h9⟩
      · exact absurd h4.symm hr
    · exact absurd h2.symm hr
  · rename_i x
    rcases onP_ok e hr with ⟨b, o, h1, h2⟩ | h2
    · have := rd_g nt x E
      rw [h1] at this
      exact ⟨_, _, fun X K hk => by simp only [actWp, AOp.cls, pureOp, ← this, FV.v, optV]; exact hk, h2⟩
    · exact slowAct_ok h2 hr
  · rename_i x i
    rcases onT_ok e hr with ⟨l, h1, h2⟩ | h2
    · have := rd_g nt x E
      rw [h1] at this
      obtain ⟨v, h3, h4⟩ := nthL_ok h2 hr
      exact ⟨v, h, fun X K hk => by simp only [actWp, AOp.cls, pureOp, ← this, FV.v, vs_get h3, optV]; exact hk, h4⟩
    · exact absurd h2.symm hr
  · rename_i x
    rcases onS_ok e hr with ⟨b, o, l, c, h1, h2⟩ | h2
    · have := rd_g nt x E
      rw [h1] at this
      exact ⟨_, _, fun X K hk => by simp only [actWp, AOp.cls, pureOp, ← this, FV.v, optV]; exact hk, h2⟩
    · exact slowAct_ok h2 hr
  · rename_i a
    rcases onP_ok e hr with ⟨b, o, h1, h2⟩ | h2
    · have := rd_g nt a E
      rw [h1] at this
      obtain ⟨_, h3, h4⟩ := hget_ok h2 hr
      obtain ⟨ro, n, l, h5, h6⟩ := onC_ok h3 hr
      obtain ⟨v, h7, h8⟩ := nthL_ok h6 hr
      rw [h5] at h4
      exact ⟨v, h, fun X K hk => by simp only [actWp, AOp.cls, readOp, loadA, ← this, FV.v, h4, FBk.blk, vs_get h7, optV]; exact hk, h8⟩
    · exact absurd h2.symm hr
  · rename_i m a
    rcases onP_ok e hr with ⟨b, o, h1, h2⟩ | h2
    · have := rd_g nt a E
      rw [h1] at this
      obtain ⟨_, h3, h4⟩ := hget_ok h2 hr
      obtain ⟨ro, n, l, h5, h6⟩ := onC_ok h3 hr
      obtain ⟨h7, h8⟩ := dropL_ok h6 hr
      obtain ⟨h9, h10⟩ := takeL_ok h8 hr
      rw [h5] at h4
      have hlen : o + m ≤ (FV.vs l).length := by rw [vs_length]; simp at h9; omega
      exact ⟨_, h, fun X K hk => by
        simp only [actWp, AOp.cls, readOp, loadA, ← this, FV.v, h4, FBk.blk, if_pos hlen, optV]
        simp only [FV.v, vs_take, vs_drop] at hk
        exact hk, h10⟩
    · exact absurd h2.symm hr
  · rename_i v t
    rcases onA_ok e hr with ⟨l, h1, h2⟩ | h2
    · have := rd_g nt v E
      rw [h1] at this
      obtain ⟨h', h3, h4, _, h5⟩ := hpush_ok (x := .cells false 0 (FV.vs l)) rfl h2 hr
      exact ⟨_, h', fun X K hk => by
        simp only [actWp, AOp.cls, newOp, ← this, FV.v, cellsOf]
        rw [h3] at hk
        exact hk, h5⟩
    · exact slowAct_ok h2 hr
  · rename_i a v
    rcases onP_ok e hr with ⟨b, o, h1, h2⟩ | h2
    · have t1 := rd_g nt a E
      have t2 := rd_g nt v E
      rw [h1] at t1
      obtain ⟨_, h3, h4⟩ := hget_ok h2 hr
      obtain ⟨ro, n, l, h5, h6⟩ := onC_ok h3 hr
      cases ro with
      | true => exact absurd h6.symm hr
      | false =>
        obtain ⟨h7, h8⟩ := oneF_ok h6 hr
        obtain ⟨h9, h10⟩ := setL_ok h8 hr
        obtain ⟨h', h11, _, h12⟩ := hset_ok (x := .cells false n (FV.vs (l.set o ((rd nt v).g E)))) rfl h10 hr
        rw [h5] at h4
        rw [rd_g] at h7
        have hc : cellsOf (evE (E.env nt) v) = [evE (E.env nt) v] := by rw [← t2]; exact cellsOf_v (by rw [t2]; exact h7)
        exact ⟨_, h', fun X K hk => by
          have : o + 1 ≤ (FV.vs l).length ∧ [evE (E.env nt) v].all Value.oneCell' = true := by rw [vs_length]; simp [h7]; omega
          simp only [actWp, AOp.cls, writeOp, ← t1, FV.v, hc, List.length_singleton, if_true, storeA, h4, FBk.blk, if_pos this, Option.map_some, optVH, over]
          rw [h11, vs_set, rd_g] at hk
          exact hk, h12⟩
    · exact absurd h2.symm hr
  · rename_i m a v _
    rcases onP_ok e hr with ⟨b, o, h1, h2⟩ | h2
    · have t1 := rd_g nt a E
      have t2 := rd_g nt v E
      rw [h1] at t1
      obtain ⟨_, h3, h4⟩ := hget_ok h2 hr
      obtain ⟨ro, n, l, h5, h6⟩ := onC_ok h3 hr
      cases ro with
      | true => exact absurd h6.symm hr
      | false =>
        rcases onA_ok h6 hr with ⟨vs, h7, h8⟩ | h8
        · rw [h7] at t2
          cases hb : Nat.beq vs.length m with
          | false => rw [hb] at h8; exact absurd h8.symm hr
          | true =>
            rw [hb] at h8
            have hlen : vs.length = m := Nat.eq_of_beq_eq_true hb
            obtain ⟨h9, h10⟩ := oneL_ok h8 hr
            obtain ⟨l', h11, h12, h13⟩ := overL_ok h10 hr
            obtain ⟨h', h14, _, h15⟩ := hset_ok (x := .cells false n (FV.vs l')) rfl h13 hr
            rw [h5] at h4
            exact ⟨_, h', fun X K hk => by
              have : o + (FV.vs vs).length ≤ (FV.vs l).length ∧ (FV.vs vs).all Value.oneCell' = true := by rw [vs_length, vs_length]; exact ⟨h11, h9⟩
              have hm : (FV.vs vs).length = m := by rw [vs_length]; exact hlen
              simp only [actWp, AOp.cls, writeOp, ← t1, ← t2, FV.v, cellsOf, hm, if_true, storeA, h4, FBk.blk]
              rw [hm] at this
              simp only [if_pos this, Option.map_some, optVH]
              rw [h14, h12] at hk
              exact hk, h15⟩
        · exact absurd h8.symm hr
    · exact absurd h2.symm hr
  · exact slowAct_ok e hr

/-! ### What must be as it was -/

theorem bool_ok {b : Bool} {k r : Out} (e : (Bool.rec (motive := fun _ => Out) .bad k b : Out) = r) (hr : r ≠ .bad) : b = true ∧ k = r := by
  cases b with
  | false => exact absurd e.symm hr
  | true => exact ⟨rfl, e⟩

theorem sameF_ok {x y : FV} {k r : Out} (e : sameF x y k = r) (hr : r ≠ .bad) : x.v = y.v ∧ k = r := by
  cases x with
  | fi m =>
    cases y <;> first | exact absurd e.symm hr | skip
    obtain ⟨h1, h2⟩ := bool_ok e hr
    rw [iEq_eq, decide_eq_true_eq] at h1
    exact ⟨by rw [h1], h2⟩
  | fb a =>
    cases y <;> first | exact absurd e.symm hr | skip
    rename_i b
    cases a <;> cases b <;> first | exact absurd e.symm hr | exact ⟨rfl, e⟩
  | fp b o =>
    cases y <;> first | exact absurd e.symm hr | skip
    obtain ⟨h1, h2⟩ := bool_ok e hr
    obtain ⟨h3, h4⟩ := bool_ok h2 hr
    rw [Nat.eq_of_beq_eq_true h1, Nat.eq_of_beq_eq_true h3]
    exact ⟨rfl, h4⟩
  | fs b o l c =>
    cases y <;> first | exact absurd e.symm hr | skip
    obtain ⟨h1, h2⟩ := bool_ok e hr
    obtain ⟨h3, h4⟩ := bool_ok h2 hr
    obtain ⟨h5, h6⟩ := bool_ok h4 hr
    obtain ⟨h7, h8⟩ := bool_ok h6 hr
    rw [Nat.eq_of_beq_eq_true h1, Nat.eq_of_beq_eq_true h3, Nat.eq_of_beq_eq_true h5, Nat.eq_of_beq_eq_true h7]
    exact ⟨rfl, h8⟩
  | fa l => exact absurd e.symm hr
  | ft l => exact absurd e.symm hr
  | fo v =>
    cases y <;> first | exact absurd e.symm hr | skip
    obtain ⟨h1, h2⟩ := bool_ok e hr
    exact ⟨sameV_eq h1, h2⟩

theorem sameL_ok : ∀ {l m : List FV} {k r : Out}, sameL l m k = r → r ≠ .bad → FV.vs l = FV.vs m ∧ k = r
  | [], [], _, _, e, _ => ⟨rfl, e⟩
  | [], _ :: _, _, _, e, hr => absurd e.symm hr
  | _ :: _, [], _, _, e, hr => absurd e.symm hr
  | x :: l, y :: m, k, r, e, hr => by
    obtain ⟨h1, h2⟩ := sameF_ok (k := sameL l m k) e hr
    obtain ⟨h3, h4⟩ := sameL_ok h2 hr
    exact ⟨by rw [FV.vs, FV.vs, h1, h3], h4⟩

theorem sameC_ok {x y : FBk} {k r : Out} (e : sameC x y k = r) (hr : r ≠ .bad) : x.blk = y.blk ∧ k = r := by
  obtain ⟨ro, n, l, rfl, h1⟩ := onC_ok e hr
  obtain ⟨ro', n', l', rfl, h2⟩ := onC_ok h1 hr
  obtain ⟨h3, h4⟩ := bool_ok h2 hr
  obtain ⟨h5, h6⟩ := bool_ok h4 hr
  obtain ⟨h7, h8⟩ := sameL_ok h6 hr
  rw [beq_iff_eq] at h3
  exact ⟨by simp only [FBk.blk, h3, Nat.eq_of_beq_eq_true h5, h7], h8⟩

theorem keepF_ok {b : Nat} {h h' : FH} {k r : Out} (e : keepF b h h' k = r) (hr : r ≠ .bad) : h'.heap.get b = h.heap.get b ∧ k = r := by
  obtain ⟨_, h1, h2⟩ := hget_ok e hr
  obtain ⟨_, h3, h4⟩ := hget_ok h1 hr
  obtain ⟨h5, h6⟩ := sameC_ok h3 hr
  exact ⟨by rw [h2, h4, h5], h6⟩

theorem notRef_ok {v : Value} {H H' : Heap} {k r : Out} (e : notRef v k = r) (hr : r ≠ .bad) : keepV v H H' ∧ k = r := by
  unfold notRef at e
  split at e <;> first | exact absurd e.symm hr | skip
  rename_i h1 h2 h3
  refine ⟨?_, e⟩
  unfold keepV
  split
  · rename_i a; exact absurd rfl (h1 a)
  · rename_i a; exact absurd rfl (h3 a)
  · rename_i a b c; exact absurd rfl (h2 a b c)
  · trivial

theorem pendF_ok {n : Nat} {E : FE} {h h' : FH} : ∀ {l : List Operand} {k r : Out}, (pendF n l).run E h h' k = r → r ≠ .bad → (∀ T, Fits' n T (E.env n) → keeps l T h.heap h'.heap) ∧ k = r
  | [], _, _, e, _ => ⟨fun _ _ => trivial, e⟩
  | x :: l, k, r, e, hr => by
    have t1 := rd_g n x E
    have fin : ∀ e' : (pendF n l).run E h h' k = r, keepV (evE (E.env n) x) h.heap h'.heap → (∀ T, Fits' n T (E.env n) → keeps (x :: l) T h.heap h'.heap) ∧ k = r := by
      intro e' hk
      obtain ⟨h1, h2⟩ := pendF_ok e' hr
      exact ⟨fun T hT => ⟨by rw [hT.ev]; exact hk, h1 T hT⟩, h2⟩
    have e1 : (fvRec (fun _ => (pendF n l).run E h h' k) (fun _ => (pendF n l).run E h h' k) (fun b _ => keepF b h h' ((pendF n l).run E h h' k)) (fun b _ _ _ => keepF b h h' ((pendF n l).run E h h' k)) (fun _ => (pendF n l).run E h h' k) (fun _ => (pendF n l).run E h h' k)
      (fun v => notRef v ((pendF n l).run E h h' k)) ((rd n x).g E)) = r := e
    generalize hx : (rd n x).g E = y at e1 t1
    cases y with
    | fp b o =>
      obtain ⟨h1, h2⟩ := keepF_ok e1 hr
      exact fin h2 (by rw [← t1]; exact h1)
    | fs b o l c =>
      obtain ⟨h1, h2⟩ := keepF_ok e1 hr
      exact fin h2 (by rw [← t1]; exact h1)
    | fo v =>
      obtain ⟨h1, h2⟩ := notRef_ok (H := h.heap) (H' := h'.heap) e1 hr
      exact fin h2 (by rw [← t1]; exact h1)
    | fi n => exact fin e1 (by rw [← t1]; trivial)
    | fb n => exact fin e1 (by rw [← t1]; trivial)
    | fa n => exact fin e1 (by rw [← t1]; trivial)
    | ft n => exact fin e1 (by rw [← t1]; trivial)


/-! ### Calls -/

section
variable {AP : AProg} {B : CallPred} {rec : FuncId → FnC} {rnd : Nat → FnC}

def GoodC (AP : AProg) (B : CallPred) (t : Tgt) (c : FnC) : Prop := ∀ args h r, c.run args h = r → r ≠ .bad → ∃ v h', r = .val v h' ∧ ACall AP B t (FV.vs args) (FH.heap h) fun v1 H1 => v1 = FV.v v ∧ H1 = FH.heap h'

variable (hB : BaseMono B) (hf : ∀ f, GoodC AP B (.fn f) (rec f)) (hl : ∀ l, GoodC AP B (.round l) (rnd l))
include hf hl

theorem callV_ok {f : FV} {args : List FV} {h : FH} {r : Out} (e : callV rec rnd f args h = r) (hr : r ≠ .bad) : ∃ v h', r = .val v h' ∧ callWp (ACall AP B) f.v (FV.vs args) h.heap fun v1 H1 => v1 = FV.v v ∧ H1 = FH.heap h' := by
  unfold callV at e
  split at e
  · rename_i f as ht
    obtain ⟨v, h', h1, h2⟩ := hf _ _ _ _ e hr
    rw [vs_map1] at h2
    exact ⟨v, h', h1, by unfold callWp; rw [ht]; exact h2⟩
  · rename_i f as ht
    obtain ⟨v, h', h1, h2⟩ := hl _ _ _ _ e hr
    rw [vs_map1] at h2
    exact ⟨v, h', h1, by unfold callWp; rw [ht]; exact h2⟩
  · exact absurd e.symm hr

theorem callC_ok {n : Nat} {f : Operand} {args : List Operand} {E : FE} {h : FH} {r : Out} (e : (callC rec rnd n f args).run E h = r) (hr : r ≠ .bad) : ∃ v h', r = .val v h' ∧ callWp (ACall AP B) (evE (E.env n) f) (args.map (evE (E.env n))) h.heap fun v1 H1 => v1 = FV.v v ∧ H1 = FH.heap h' := by
  unfold callC at e
  split at e
  · rename_i g
    obtain ⟨v, h', h1, h2⟩ := hf _ _ _ _ e hr
    rw [rds_g] at h2
    refine ⟨v, h', h1, ?_⟩
    simpa [callWp, evE, target] using h2
  · obtain ⟨v, h', h1, h2⟩ := callV_ok hf hl e hr
    rw [rd_g, rds_g] at h2
    exact ⟨v, h', h1, h2⟩

theorem valRec_ok {k : FV → FH → Out} {o r : Out} (e : valRec k o = r) (hr : r ≠ .bad) : ∃ v h', o = .val v h' ∧ k v h' = r := by
  cases o with
  | val v h => exact ⟨v, h, rfl, e⟩
  | _ => exact absurd e.symm hr

include hB

theorem actC_ok {n : Nat} {op : AOp} {E : FE} {h : FH} {k : FV → FH → Out} {r : Out} (e : (actC rec rnd n op).run E h k = r) (hr : r ≠ .bad) :
    ∃ v h', (∀ K : Value → Heap → Prop, K (FV.v v) (FH.heap h') → actWp (ACall AP B) op (evE (E.env n)) h.heap K) ∧ k v h' = r := by
  unfold actC at e
  split at e
  · rename_i f args
    obtain ⟨v, h', h1, h2⟩ := valRec_ok hf hl e hr
    obtain ⟨v1, h1', h3, h4⟩ := callC_ok hf hl h1 (by simp)
    cases h3
    exact ⟨v, h', fun K hk => callWp_mono (CallMono.acall hB) (by rintro v1 H1 ⟨rfl, rfl⟩; exact hk) h4, h2⟩
  · obtain ⟨v, h', h1, h2⟩ := actF_ok e hr
    exact ⟨v, h', fun K hk => h1 _ K hk, h2⟩

/-! ### FCode -/

def GoodCode (AP : AProg) (B : CallPred) (n : Nat) (fn : FuncId) (c : ACode) (x : FCode) : Prop :=
  ∀ l E h r, x.run l E h = r → r ≠ .bad → ∃ e E' h', r = .ok e E' h' ∧ ∀ T, Fits' n T (FE.env E n) → wp (ACall AP B) ⟨fn, l⟩ c T (FH.heap h) fun e1 T1 H1 => e1 = e ∧ Fits' n T1 (FE.env E' n) ∧ H1 = FH.heap h'

def GoodOps (AP : AProg) (B : CallPred) (n : Nat) (ops : List AOper) (x : FCode) : Prop :=
  ∀ l E h r, x.run l E h = r → r ≠ .bad → ∃ E' h', r = .ok .normal E' h' ∧ ∀ T, Fits' n T (FE.env E n) → opsWp (ACall AP B) ops T (FH.heap h) fun T1 H1 => Fits' n T1 (FE.env E' n) ∧ H1 = FH.heap h'

theorem opsC_ok {n : Nat} : ∀ ops : List AOper, GoodOps AP B n ops (opsC rec rnd n ops)
  | [] => fun l E h r e hr => ⟨E, h, e.symm, fun T hT => ⟨hT, rfl⟩⟩
  | o :: rest => fun l E h r e hr => by
    have ih := opsC_ok (n := n) rest
    -- the two ways
    have skip : ∀ r, (wr n o.dst).w (.fo undef) E (fun E => (opsC rec rnd n rest).run l E h) = r → r ≠ .bad → (∀ T, Fits' n T (E.env n) → wantB o.guard T = false) →
        ∃ E' h', r = .ok .normal E' h' ∧ ∀ T, Fits' n T (E.env n) → opsWp (ACall AP B) (o :: rest) T h.heap fun T1 H1 => Fits' n T1 (FE.env E' n) ∧ H1 = FH.heap h' := by
      intro r e hr hw
      obtain ⟨E1, h1, h2, h3⟩ := wr_ok e hr
      obtain ⟨E', h', h4, h5⟩ := ih _ _ _ _ h3 hr
      refine ⟨E', h', h4, fun T hT => ?_⟩
      unfold opsWp
      rw [if_neg (by simp [hw T hT])]
      exact h5 _ (by rw [h2]; exact hT.put h1)
    have main : ∀ r, (actC rec rnd n o.op).run E h (fun v h' => (pendF n o.pend).run E h h' ((wr n o.dst).w v E fun E => (opsC rec rnd n rest).run l E h')) = r → r ≠ .bad → (∀ T, Fits' n T (E.env n) → wantB o.guard T = true) →
        ∃ E' h', r = .ok .normal E' h' ∧ ∀ T, Fits' n T (E.env n) → opsWp (ACall AP B) (o :: rest) T h.heap fun T1 H1 => Fits' n T1 (FE.env E' n) ∧ H1 = FH.heap h' := by
      intro r e hr hw
      obtain ⟨v, h1, h2, h3⟩ := actC_ok hB hf hl e hr
      obtain ⟨h4, h5⟩ := pendF_ok h3 hr
      obtain ⟨E1, h6, h7, h8⟩ := wr_ok h5 hr
      obtain ⟨E', h', h9, h10⟩ := ih _ _ _ _ h8 hr
      refine ⟨E', h', h9, fun T hT => ?_⟩
      unfold opsWp
      rw [if_pos (hw T hT), hT.ev]
      exact h2 _ ⟨h4 T hT, h10 _ (by rw [h7]; exact hT.put h6)⟩
    have run1 : ∀ b : FCode, (b = ⟨fun l E h => (wr n o.dst).w (.fo undef) E fun E => (opsC rec rnd n rest).run l E h⟩) → ∀ a : FCode,
        (∀ r, a.run l E h = r → r ≠ .bad → (actC rec rnd n o.op).run E h (fun v h' => (pendF n o.pend).run E h h' ((wr n o.dst).w v E fun E => (opsC rec rnd n rest).run l E h')) = r) →
        (guardC n o.guard a b).run l E h = r → ∃ E' h', r = .ok .normal E' h' ∧ ∀ T, Fits' n T (E.env n) → opsWp (ACall AP B) (o :: rest) T h.heap fun T1 H1 => Fits' n T1 (FE.env E' n) ∧ H1 = FH.heap h' := by
      rintro b rfl a ha e
      unfold guardC at e
      split at e
      · rename_i hg
        exact main r (ha r e hr) hr fun T hT => by simp [wantB, hg]
      · rename_i t hg
        rcases onG_ok e hr with ⟨c, h1, h2⟩ | ⟨h1, h2⟩
        · have t1 := rdT_g n t E
          rw [h1] at t1
          cases c with
          | true => exact main r (ha r h2 hr) hr fun T hT => by simp only [wantB, hg]; rw [hT.2 t, ← t1]; rfl
          | false => exact skip r h2 hr fun T hT => by simp only [wantB, hg]; rw [hT.2 t, ← t1]; rfl
        · exact skip r h2 hr fun T hT => by
            simp only [wantB, hg]; rw [hT.2 t, ← rdT_g]
            split
            · rename_i c hc; exact absurd hc (h1 c)
            · rfl
      · rename_i t hg
        rcases onG_ok e hr with ⟨c, h1, h2⟩ | ⟨h1, h2⟩
        · have t1 := rdT_g n t E
          rw [h1] at t1
          cases c with
          | false => exact main r (ha r h2 hr) hr fun T hT => by simp only [wantB, hg]; rw [hT.2 t, ← t1]; rfl
          | true => exact skip r h2 hr fun T hT => by simp only [wantB, hg]; rw [hT.2 t, ← t1]; rfl
        · exact skip r h2 hr fun T hT => by
            simp only [wantB, hg]; rw [hT.2 t, ← rdT_g]
            split
            · rename_i c hc; exact absurd hc (h1 c)
            · rfl
    refine run1 _ rfl _ ?_ e
    intro r e hr
    split at e
    · rename_i hp; rw [hp]; exact e
    · exact e


omit hB hf hl in
theorem outRec_ok {k : Ex → FE → FH → Out} {o r : Out} (e : outRec k o = r) (hr : r ≠ .bad) : ∃ x E h, o = .ok x E h ∧ k x E h = r := by
  cases o with
  | ok x E h => exact ⟨x, E, h, rfl, e⟩
  | _ => exact absurd e.symm hr

omit hB hf hl in
theorem fits_tmps {n : Nat} {T : List Value} {E : FE} (h : Fits' n T (E.env n)) : T = E.tmps n := by
  unfold FE.tmps
  apply List.ext_getElem
  · simp [h.1]
  · intro i h1 h2
    have := h.2 i
    rw [List.getD_eq_getElem?_getD, List.getElem?_eq_getElem h1] at this
    simpa using this

omit hB hf hl in
theorem tmps_fits {n : Nat} {E : FE} {T : List Value} (h : T = E.tmps n) : Fits' n T (E.env n) := by
  subst h
  unfold FE.tmps
  refine ⟨by simp, fun i => ?_⟩
  by_cases hi : i < n
  · simp [List.getD_eq_getElem?_getD, hi]
  · simp only [List.getD_eq_getElem?_getD]
    rw [List.getElem?_eq_none (by simp; omega), FE.env, if_neg hi]; rfl

omit hB hf hl in
theorem inRound_ok {l : Option Nat} {h : FH} {k r : Out} (e : inRound l h k = r) (hr : r ≠ .bad) : (∀ fn, roundOk ⟨fn, l⟩ h.heap) ∧ k = r := by
  cases l with
  | none => exact ⟨fun _ => trivial, e⟩
  | some l =>
    obtain ⟨_, h1, h2⟩ := hget_ok (show hget h l _ = r from e) hr
    generalize hb : h.t.get l = b at h1 h2
    cases b with
    | loop st pend fn n E ps as body => exact ⟨fun _ => by simp only [roundOk, h2, FBk.blk], h1⟩
    | _ => exact absurd h1.symm hr

theorem loopC_ok {n : Nat} {fn : FuncId} {c : ACode} {x : FCode} (hx : GoodCode AP B n fn c x) : GoodCode AP B n fn (.loop c) (loopC x) := by
  intro l E h r e hr
  have key : ∀ m E h r, (Nat.rec (motive := fun _ => FE → FH → Out) (fun _ _ => .bad) (fun _ ih E h => outRec (fun e E h => exRec (ih E h) (fun j => .ok (.jump j) E h) e) (x.run l E h)) m E h : Out) = r → r ≠ .bad →
      ∃ e E' h', r = .ok e E' h' ∧ ∀ T, Fits' n T (FE.env E n) → wp (ACall AP B) ⟨fn, l⟩ (.loop c) T (FH.heap h) fun e1 T1 H1 => e1 = e ∧ Fits' n T1 (FE.env E' n) ∧ H1 = FH.heap h' := by
    intro m
    induction m with
    | zero => intro E h r e hr; exact absurd e.symm hr
    | succ m ih =>
      intro E h r e hr
      obtain ⟨x1, E1, h1, k1, k2⟩ := outRec_ok e hr
      obtain ⟨x2, E2, h2, k3, k4⟩ := hx _ _ _ _ k1 (by simp)
      cases k3
      cases x1 with
      | normal =>
        obtain ⟨e3, E3, h3, k5, k6⟩ := ih E1 h1 r k2 hr
        refine ⟨e3, E3, h3, k5, fun T hT I hI => ?_⟩
        refine hI _ _ (wp_mono (CallMono.acall hB) _ _ _ _ _ ?_ (k4 T hT))
        rintro e1 T1 H1 ⟨rfl, hT1, rfl⟩
        exact k6 T1 hT1 I hI
      | jump j =>
        refine ⟨_, _, _, k2.symm, fun T hT I hI => ?_⟩
        refine hI _ _ (wp_mono (CallMono.acall hB) _ _ _ _ _ ?_ (k4 T hT))
        rintro e1 T1 H1 ⟨rfl, hT1, rfl⟩
        exact ⟨rfl, hT1, rfl⟩
  exact key 100000 E h r e hr

theorem rangeC_ok {n : Nat} {fn : FuncId} {f : Operand} {params : List Tmp} {assign body : ACode} : GoodCode AP B n fn (.range f params assign body) (rangeC rec rnd n fn f params assign body) := by
  intro l E h r e hr
  obtain ⟨hro, e⟩ := inRound_ok (show inRound l h _ = r from e) hr
  obtain ⟨h1, k1, k2, _, k3⟩ := hpush_ok (x := .loop { state := .ready, pending := none, fn := fn, tmps := E.tmps n, params, assign, body }) rfl e hr
  obtain ⟨v2, h2, k4, k5⟩ := valRec_ok hf hl k3 hr
  rw [forceN_eq] at k4
  obtain ⟨v3, h3, k6, k7⟩ := callV_ok hf hl k4 (by simp)
  cases k6
  obtain ⟨_, k8, k9⟩ := hget_ok k5 hr
  generalize hb : h2.t.get h.size = b at k8 k9
  cases b with
  | loop st pend fn' n' E' ps' as' body' =>
    have k10 : notBusy st (hset h2 h.size (.loop .exhausted pend fn' n' E' ps' as' body') fun h3 => .ok (AJump.toEx pend) E h3) = r := k8
    have hst : st ≠ .busy := by rintro rfl; exact hr k10.symm
    have k11 : hset h2 h.size (.loop .exhausted pend fn' n' E' ps' as' body') (fun h3 => .ok (AJump.toEx pend) E h3) = r := by
      cases st <;> first | exact k10 | exact absurd rfl hst
    obtain ⟨h4, k12, _, k13⟩ := hset_ok (x := .loop { state := .exhausted, pending := pend, fn := fn', tmps := FE.tmps E' n', params := ps', assign := as', body := body' }) rfl k11 hr
    refine ⟨_, _, _, k13.symm, fun T hT => ⟨hro fn, ?_⟩⟩
    rw [hT.ev, fits_tmps hT, ← rd_g]
    have hp : h.heap.push (.loop { state := .ready, pending := none, fn := fn, tmps := E.tmps n, params, assign, body }) = h1.heap := k1.symm
    rw [hp]
    refine callWp_mono (CallMono.acall hB) ?_ k7
    rintro v1 H1 ⟨rfl, rfl⟩
    unfold endRange
    have hg : h2.heap.get h.heap.size = some (.loop { state := st, pending := pend, fn := fn', tmps := FE.tmps E' n', params := ps', assign := as', body := body' }) := k9
    rw [hg]
    refine ⟨hst, rfl, ?_, ?_⟩
    · rw [← fits_tmps hT]; exact hT
    · rw [k12]; rfl
  | _ => exact absurd k8.symm hr

omit hB hf hl in
theorem comp_loop {n : Nat} {fn : FuncId} {c : ACode} : comp rec rnd n fn (.loop c) = loopC (comp rec rnd n fn c) := by
  unfold comp
  rfl

theorem comp_ok {n : Nat} {fn : FuncId} (c : ACode) : GoodCode AP B n fn c (comp rec rnd n fn c) := by
  induction c with
  | skip => intro l E h r e hr; exact ⟨_, _, _, e.symm, fun T hT => ⟨rfl, hT, rfl⟩⟩
  | ops ops =>
    intro l E h r e hr
    obtain ⟨E', h', h1, h2⟩ := opsC_ok hB hf hl ops l E h r e hr
    exact ⟨_, _, _, h1, fun T hT => opsWp_mono (CallMono.acall hB) (fun T1 H1 hk => ⟨rfl, hk.1, hk.2⟩) _ _ _ (h2 T hT)⟩
  | seq a b iha ihb =>
    intro l E h r e hr
    obtain ⟨x1, E1, h1, k1, k2⟩ := outRec_ok (show outRec (fun e E h => exRec ((comp rec rnd n fn b).run l E h) (fun j => .ok (.jump j) E h) e) ((comp rec rnd n fn a).run l E h) = r from e) hr
    obtain ⟨x2, E2, h2, k3, k4⟩ := iha _ _ _ _ k1 (by simp)
    cases k3
    cases x1 with
    | normal =>
      obtain ⟨e3, E3, h3, k5, k6⟩ := ihb _ _ _ r k2 hr
      refine ⟨e3, E3, h3, k5, fun T hT => ?_⟩
      unfold wp
      refine wp_mono (CallMono.acall hB) _ _ _ _ _ ?_ (k4 T hT)
      rintro e1 T1 H1 ⟨rfl, hT1, rfl⟩
      exact k6 T1 hT1
    | jump j =>
      refine ⟨_, _, _, k2.symm, fun T hT => ?_⟩
      unfold wp
      refine wp_mono (CallMono.acall hB) _ _ _ _ _ ?_ (k4 T hT)
      rintro e1 T1 H1 ⟨rfl, hT1, rfl⟩
      exact ⟨rfl, hT1, rfl⟩
  | cond c a b iha ihb =>
    intro l E h r e hr
    rcases onB_ok (show onB ((rd n c).g E) (fun x => Bool.rec (motive := fun _ => Out) ((comp rec rnd n fn b).run l E h) ((comp rec rnd n fn a).run l E h) x) .bad = r from e) hr with ⟨x, h1, h2⟩ | h2
    · have t1 := rd_g n c E
      rw [h1] at t1
      cases x with
      | true =>
        obtain ⟨e3, E3, h3, k5, k6⟩ := iha _ _ _ r h2 hr
        refine ⟨e3, E3, h3, k5, fun T hT => ?_⟩
        unfold wp
        rw [hT.ev, ← t1]
        exact k6 T hT
      | false =>
        obtain ⟨e3, E3, h3, k5, k6⟩ := ihb _ _ _ r h2 hr
        refine ⟨e3, E3, h3, k5, fun T hT => ?_⟩
        unfold wp
        rw [hT.ev, ← t1]
        exact k6 T hT
    · exact absurd h2.symm hr
  | block id c ihc =>
    intro l E h r e hr
    obtain ⟨x1, E1, h1, k1, k2⟩ := outRec_ok (show outRec (fun e E h => exRec (.ok .normal E h) (fun j => Jump.rec (motive := fun _ => Out) (fun i => Bool.rec (motive := fun _ => Out) (.ok (.jump (.exit i)) E h) (.ok .normal E h) (Nat.beq i id)) (.ok (.jump .ret) E h) j) e) ((comp rec rnd n fn c).run l E h) = r from e) hr
    obtain ⟨x2, E2, h2, k3, k4⟩ := ihc _ _ _ _ k1 (by simp)
    cases k3
    have fin : ∀ y, r = .ok y E1 h1 → (∀ T, Fits' n T (E1.env n) → blockP id (fun e1 T1 H1 => e1 = y ∧ Fits' n T1 (FE.env E1 n) ∧ H1 = FH.heap h1) x1 T h1.heap) →
        ∃ e E' h', r = .ok e E' h' ∧ ∀ T, Fits' n T (FE.env E n) → wp (ACall AP B) ⟨fn, l⟩ (.block id c) T (FH.heap h) fun e1 T1 H1 => e1 = e ∧ Fits' n T1 (FE.env E' n) ∧ H1 = FH.heap h' := by
      intro y hy hb
      refine ⟨_, _, _, hy, fun T hT => ?_⟩
      unfold wp
      refine wp_mono (CallMono.acall hB) _ _ _ _ _ ?_ (k4 T hT)
      rintro e1 T1 H1 ⟨rfl, hT1, rfl⟩
      exact hb T1 hT1
    cases x1 with
    | normal => exact fin _ k2.symm fun T hT => ⟨rfl, hT, rfl⟩
    | jump j =>
      cases j with
      | ret => exact fin _ k2.symm fun T hT => ⟨rfl, hT, rfl⟩
      | exit i =>
        have k2' : (Bool.rec (motive := fun _ => Out) (.ok (.jump (.exit i)) E1 h1) (.ok .normal E1 h1) (Nat.beq i id) : Out) = r := k2
        cases hi : Nat.beq i id with
        | true =>
          rw [hi] at k2'
          exact fin _ k2'.symm fun T hT => by simp only [blockP, if_pos (Nat.eq_of_beq_eq_true hi)]; exact ⟨trivial, hT, trivial⟩
        | false =>
          rw [hi] at k2'
          exact fin _ k2'.symm fun T hT => by simp only [blockP, if_neg (Nat.ne_of_beq_eq_false hi)]; exact ⟨trivial, hT, trivial⟩
  | loop c ihc =>
    rw [comp_loop]
    exact loopC_ok hB hf hl ihc
  | range f params assign body _ _ => exact rangeC_ok hB hf hl
  | scope c ihc =>
    intro l E h r e hr
    obtain ⟨e3, E3, h3, k5, k6⟩ := ihc l E h r e hr
    exact ⟨e3, E3, h3, k5, fun T hT => by unfold wp; exact k6 T hT⟩
  | jump j => intro l E h r e hr; exact ⟨_, _, _, e.symm, fun T hT => ⟨rfl, hT, rfl⟩⟩


/-! ### Functions and rounds -/

omit hB hf hl in
theorem initC_ok {ntm : Nat} : ∀ (k i : Nat) (l : List FV) (E : FE) (K : FE → Out) (r : Out), (initC ntm k i).run l E K = r → r ≠ .bad → ∀ pre : List FV, pre.length = i → (∀ j, (E.env ntm) j = ((FV.vs pre).getD j undef)) →
    ∃ E' : FE, l.length = k ∧ (k = 0 ∨ i + k ≤ ntm) ∧ (∀ j, (E'.env ntm) j = (FV.vs (pre ++ l)).getD j undef) ∧ K E' = r
  | 0, i, [], E, K, r, e, hr, pre, hp, hE => ⟨E, rfl, .inl rfl, by simpa using hE, e⟩
  | 0, i, _ :: _, E, K, r, e, hr, pre, hp, hE => absurd e.symm hr
  | k + 1, i, [], E, K, r, e, hr, pre, hp, hE => absurd e.symm hr
  | k + 1, i, x :: l, E, K, r, e, hr, pre, hp, hE => by
    obtain ⟨E1, h1, h2, h3⟩ := wr_ok (show (wr ntm (some i)).w x E (fun E => (initC ntm k (i + 1)).run l E K) = r from e) hr
    obtain ⟨E', h4, h5, h6, h7⟩ := initC_ok k (i + 1) l E1 K r h3 hr (pre ++ [x]) (by simp [hp]) (by
      intro j
      rw [h2]
      simp only [updO, upd]
      have hl : (FV.vs pre).length = i := by rw [vs_length, hp]
      have hv : FV.vs (pre ++ [x]) = FV.vs pre ++ [x.v] := by simp [vs_eq]
      rw [hv]
      by_cases hj : j = i
      · subst hj; simp [List.getD_eq_getElem?_getD, ← hl]
      · have : (j == i) = false := by simp [hj]
        rw [this, cond_false, hE j]
        simp only [List.getD_eq_getElem?_getD]
        by_cases hji : j < i
        · rw [List.getElem?_append_left (by omega)]
        · rw [List.getElem?_eq_none (by omega), List.getElem?_eq_none (by simp; omega)])
    have h8 : i < ntm := h1 i rfl
    refine ⟨E', by simp [h4], .inr (by omega), ?_, h7⟩
    intro j
    rw [h6 j, List.append_assoc]; rfl

omit hB hf hl in
theorem putsC_ok {ntm : Nat} : ∀ (ps : List Tmp) (l : List FV) (E : FE) (K : FE → Out) (r : Out), (putsC ntm ps).run l E K = r → r ≠ .bad → ∀ T, Fits' ntm T (E.env ntm) →
    ∃ E' : FE, l.length = ps.length ∧ Fits' ntm (putAll ps (FV.vs l) T) (E'.env ntm) ∧ K E' = r
  | [], [], E, K, r, e, hr, T, hT => ⟨E, rfl, by simpa [putAll, FV.vs] using hT, e⟩
  | [], _ :: _, E, K, r, e, hr, T, hT => absurd e.symm hr
  | _ :: _, [], E, K, r, e, hr, T, hT => absurd e.symm hr
  | p :: ps, x :: l, E, K, r, e, hr, T, hT => by
    obtain ⟨E1, h1, h2, h3⟩ := wr_ok (show (wr ntm (some p)).w x E (fun E => (putsC ntm ps).run l E K) = r from e) hr
    obtain ⟨E', h4, h5, h6⟩ := putsC_ok ps l E1 K r h3 hr (T.set p x.v) (by
      have := hT.put (d := some p) (v := x.v) h1
      rw [h2]; exact this)
    exact ⟨E', by simp [h4], by simpa [putAll, FV.vs] using h5, h6⟩

omit hB hf hl in
theorem resC_ok {n : Nat} {E : FE} {h : FH} : ∀ {rs : List ARes} {K : List FV → Out} {r : Out}, (resC n rs).run E h K = r → r ≠ .bad → ∃ l : List FV, (∀ T, Fits' n T (E.env n) → resAll h.heap T rs = some (FV.vs l)) ∧ K l = r
  | [], K, r, e, hr => ⟨[], fun _ _ => rfl, e⟩
  | .tmp t :: rs, K, r, e, hr => by
    have e' : force ((rdT n t).g E) (fun v => (resC n rs).run E h fun l => K (v :: l)) = r := e
    rw [force_eq] at e'
    obtain ⟨l, h1, h2⟩ := resC_ok (n := n) e' hr
    refine ⟨_, fun T hT => ?_, h2⟩
    simp only [resAll, resA, h1 T hT, hT.2 t, FV.vs, rdT_g]
  | .cell agg a :: rs, K, r, e, hr => by
    have e' : (actF n (.load agg (.tmp a))).run E h (fun v _ => (resC n rs).run E h fun l => K (v :: l)) = r := e
    obtain ⟨v, h', h1, h2⟩ := actF_ok e' hr
    obtain ⟨l, h3, h4⟩ := resC_ok (n := n) h2 hr
    refine ⟨_, fun T hT => ?_, h4⟩
    have h5 := h1 (fun _ _ _ _ => False) (fun v' _ => v' = v.v) rfl
    simp only [actWp, AOp.cls, readOp] at h5
    simp only [resAll, resA, hT.2 a]
    cases hl : loadA h.heap agg ((E.env n) a) with
    | none =>
      have : loadA h.heap agg (evE (E.env n) (.tmp a)) = none := hl
      rw [this] at h5; exact h5.elim
    | some w =>
      have h6 : loadA h.heap agg (evE (E.env n) (.tmp a)) = some w := hl
      rw [h6] at h5
      have h7 : w = v.v := h5
      simp only [h3 T hT, FV.vs, h7]

omit hB hf hl in
theorem resOut_ok {h : FH} {l : List FV} {r : Out} (e : resOut h l = r) : ∃ v : FV, r = .val v h ∧ v.v = resV (FV.vs l) := by
  subst e
  match l with
  | [] => exact ⟨_, rfl, rfl⟩
  | [x] => exact ⟨_, rfl, rfl⟩
  | x :: y :: l => exact ⟨_, rfl, rfl⟩

omit hB hf hl in
theorem empty_env (n j : Nat) : emptyE.env n j = undef := by
  have key : ∀ n, R8.get n (R8.all (FV.fo undef)) = .fo undef := by
    intro n; match n with
    | 0 | 1 | 2 | 3 | 4 | 5 | 6 | _ + 7 => rfl
  have key2 : ∀ n, R8.get n (R8.all (R8.all (FV.fo undef))) = R8.all (.fo undef) := by
    intro n; match n with
    | 0 | 1 | 2 | 3 | 4 | 5 | 6 | _ + 7 => rfl
  have key3 : ∀ n, R8.get n (R8.all (R8.all (R8.all (FV.fo undef)))) = R8.all (R8.all (.fo undef)) := by
    intro n; match n with
    | 0 | 1 | 2 | 3 | 4 | 5 | 6 | _ + 7 => rfl
  unfold FE.env FE.fn emptyE
  split
  · split
    · rw [key3, key2, key]; rfl
    · rfl
  · rfl

theorem fnB_ok {f : FuncId} {a : AFunc} (ha : AP f = some a) (hm : a.nargs ≤ a.ntmps) : GoodC AP B (.fn f) (fnB rec rnd f a) := by
  intro args h r e hr
  obtain ⟨E0, h1, h2, h3, h4⟩ := initC_ok a.nargs 0 args emptyE _ r e hr [] rfl (fun j => by rw [empty_env]; simp [FV.vs])
  obtain ⟨x, E1, h5, k1, k2⟩ := outRec_ok h4 hr
  obtain ⟨x2, E2, h6, k3, k4⟩ := comp_ok hB hf hl a.body _ _ _ _ k1 (by simp)
  cases k3
  have hT : Fits' a.ntmps (FV.vs args ++ List.replicate (a.ntmps - (FV.vs args).length) undef) (E0.env a.ntmps) := by
    refine ⟨by simp [vs_length]; omega, fun i => ?_⟩
    rw [h3 i]
    simp only [List.nil_append, List.getD_eq_getElem?_getD]
    by_cases hi : i < (FV.vs args).length
    · rw [List.getElem?_append_left hi]
    · rw [List.getElem?_append_right (Nat.le_of_not_lt hi), List.getElem?_eq_none (Nat.le_of_not_lt hi), List.getElem?_replicate]
      split <;> rfl
  have fin : (resC a.ntmps a.results).run E1 h5 (resOut h5) = r → (∀ T1 H1, Fits' a.ntmps T1 (E1.env a.ntmps) → H1 = FH.heap h5 → ∀ R : Value → Heap → Prop, retP H1 T1 a.results R → bodyP a R x T1 H1) →
      ∃ v h', r = .val v h' ∧ ACall AP B (.fn f) (FV.vs args) (FH.heap h) fun v1 H1 => v1 = FV.v v ∧ H1 = FH.heap h' := by
    intro e' hb
    obtain ⟨l, g1, g2⟩ := resC_ok (n := a.ntmps) e' hr
    obtain ⟨v, g3, g4⟩ := resOut_ok g2
    refine ⟨v, h5, g3, ACall.fold hB ?_⟩
    simp only [callBody, ha]
    refine ⟨by rw [vs_length, h1], ?_⟩
    refine wp_mono (CallMono.acall hB) _ _ _ _ _ ?_ (k4 _ hT)
    rintro e1 T1 H1 ⟨rfl, hT1, rfl⟩
    refine hb _ _ hT1 rfl _ ?_
    unfold retP
    rw [g1 T1 hT1]
    exact ⟨g4.symm, rfl⟩
  cases x with
  | normal => exact fin k2 fun T1 H1 _ _ R hR => hR
  | jump j =>
    cases j with
    | ret => exact fin k2 fun T1 H1 _ _ R hR => hR
    | exit i => exact absurd k2.symm hr


omit hB hf hl in
theorem isReady_ok {st : LoopState} {k r : Out} (e : isReady st k = r) (hr : r ≠ .bad) : st = .ready ∧ k = r := by
  cases st <;> first | exact absurd e.symm hr | exact ⟨rfl, e⟩

omit hB hf hl in
theorem onL_ok {b : FBk} {k : LoopState → Option Jump → FuncId → Nat → FE → List Tmp → ACode → ACode → Out} {r : Out} (e : fbRec .bad (fun _ _ _ => .bad) k (fun _ => .bad) b = r) (hr : r ≠ .bad) :
    ∃ st pend fn n E ps as body, b = .loop st pend fn n E ps as body ∧ k st pend fn n E ps as body = r := by
  cases b <;> first | exact ⟨_, _, _, _, _, _, _, _, rfl, e⟩ | exact absurd e.symm hr

theorem rndB_ok (l : Nat) : GoodC AP B (.round l) (rndB rec rnd l) := by
  intro args h r e hr
  obtain ⟨_, e1, hg⟩ := hget_ok e hr
  obtain ⟨st, pend, fn, n, E, ps, as, body, hb, e2⟩ := onL_ok e1 hr
  rw [hb] at hg
  have e2 : (putsC n ps).run args E (fun E => outRec (fun e E h => exRec
        (hget h l fun b => fbRec .bad (fun _ _ _ => .bad) (fun st2 pend2 fn2 n2 E2 ps2 as2 body2 =>
          isReady st2 (hset h l (.loop .busy pend2 fn2 n2 E2 ps2 as2 body2) fun h =>
            outRec (fun e _ h => hget h l fun b => fbRec .bad (fun _ _ _ => .bad) (fun _ _ fn3 n3 E3 ps3 as3 body3 =>
              exRec (hset h l (.loop .ready none fn3 n3 E3 ps3 as3 body3) fun h => .val (.fb true) h)
                (fun j => hset h l (.loop .done (some j) fn3 n3 E3 ps3 as3 body3) fun h => .val (.fb false) h) e) (fun _ => .bad) b)
              ((comp rec rnd n fn body).run (some l) E h))) (fun _ => .bad) b)
        (fun _ => .bad) e) ((comp rec rnd n fn as).run (some l) E h)) = r := e2
  have hT0 : Fits' n (E.tmps n) (E.env n) := tmps_fits rfl
  obtain ⟨E1, h1, h2, e3⟩ := putsC_ok ps args E _ r e2 hr _ hT0
  obtain ⟨x, E2, h3, k1, e4⟩ := outRec_ok e3 hr
  obtain ⟨x', E2', h3', k2, k3⟩ := comp_ok hB hf hl as _ _ _ _ k1 (by simp)
  cases k2
  cases x with
  | jump j => exact absurd e4.symm hr
  | normal =>
    obtain ⟨_, e5, hg2⟩ := hget_ok e4 hr
    obtain ⟨st2, pend2, fn2, n2, E22, ps2, as2, body2, hb2, e6⟩ := onL_ok e5 hr
    rw [hb2] at hg2
    obtain ⟨rfl, e7⟩ := isReady_ok e6 hr
    obtain ⟨h4, k4, _, e8⟩ := hset_ok (x := .loop { state := .busy, pending := pend2, fn := fn2, tmps := E22.tmps n2, params := ps2, assign := as2, body := body2 }) rfl e7 hr
    obtain ⟨x3, E3, h5, k5, e9⟩ := outRec_ok e8 hr
    obtain ⟨x3', E3', h5', k6, k7⟩ := comp_ok hB hf hl body _ _ _ _ k5 (by simp)
    cases k6
    obtain ⟨_, e10, hg3⟩ := hget_ok e9 hr
    obtain ⟨st3, pend3, fn3, n3, E33, ps3, as3, body3, hb3, e11⟩ := onL_ok e10 hr
    rw [hb3] at hg3
    have fin : ∀ (R : Value → Heap → Prop), roundEnd l R x3 (E3.tmps n) h5.heap → ∀ T3, roundEnd l R x3 T3 h5.heap := fun R h _ => h
    have go : ∀ v h', r = .val v h' → (∀ T3, roundEnd l (fun v1 H1 => v1 = FV.v v ∧ H1 = FH.heap h') x3 T3 h5.heap) →
        ∃ v h', r = .val v h' ∧ ACall AP B (.round l) (FV.vs args) (FH.heap h) fun v1 H1 => v1 = FV.v v ∧ H1 = FH.heap h' := by
      intro v h' hv hend
      refine ⟨v, h', hv, ACall.fold hB ?_⟩
      simp only [callBody, hg, FBk.blk]
      refine ⟨by rw [vs_length, h1], ?_⟩
      refine wp_mono (CallMono.acall hB) _ _ _ _ _ ?_ (k3 _ h2)
      rintro e1 T1 H1 ⟨rfl, hT1, rfl⟩
      simp only [roundBegin, hg2, FBk.blk]
      refine ⟨trivial, ?_⟩
      rw [← k4]
      refine wp_mono (CallMono.acall hB) _ _ _ _ _ ?_ (k7 _ hT1)
      rintro e1 T3 H3 ⟨rfl, _, rfl⟩
      exact hend T3
    cases x3 with
    | normal =>
      obtain ⟨h6, k8, _, e12⟩ := hset_ok (x := .loop { state := .ready, pending := none, fn := fn3, tmps := E33.tmps n3, params := ps3, assign := as3, body := body3 }) rfl e11 hr
      refine go _ _ e12.symm fun T3 => ?_
      simp only [roundEnd, hg3, FBk.blk, exPending, Option.isNone_none, if_true, FV.v, k8, and_self]
    | jump j =>
      obtain ⟨h6, k8, _, e12⟩ := hset_ok (x := .loop { state := .done, pending := some j, fn := fn3, tmps := E33.tmps n3, params := ps3, assign := as3, body := body3 }) rfl e11 hr
      refine go _ _ e12.symm fun T3 => ?_
      simp [roundEnd, hg3, FBk.blk, exPending, FV.v, k8]

end

/-! ### All calls -/

/-- The oracles tell what the base bears. -/
def OrcOk (B : CallPred) (orc : Orc) : Prop :=
  ∀ f g, orc f = some g → ∀ args h o k r, g args h o k = r → r ≠ .bad → o = r ∨ ∃ v, B (.fn f) (FV.vs args) (FH.heap h) (fun v1 H1 => v1 = FV.v v ∧ H1 = FH.heap h) ∧ k v = r

theorem bad_good {AP : AProg} {B : CallPred} (t : Tgt) : GoodC AP B t badC := fun _ _ _ e hr => absurd e.symm hr

theorem fnC_ok {AP : AProg} {B : CallPred} (hB : BaseMono B) {orc : Orc} (ho : OrcOk B orc) {rec : FuncId → FnC} {rnd : Nat → FnC} (hf : ∀ f, GoodC AP B (.fn f) (rec f)) (hl : ∀ l, GoodC AP B (.round l) (rnd l)) (f : FuncId) : GoodC AP B (.fn f) (fnC AP orc rec rnd f) := by
  unfold fnC
  split
  · rename_i a ha
    cases hn : Nat.ble a.nargs a.ntmps with
    | false => exact bad_good _
    | true =>
      have hb := fnB_ok hB hf hl ha (ble_true hn)
      show GoodC AP B (.fn f) (match orc f with
        | some g => ⟨fun args h => g args h ((fnB rec rnd f a).run args h) fun v => .val v h⟩
        | none => fnB rec rnd f a)
      split
      · rename_i g hg
        intro args h r e hr
        rcases ho f g hg args h _ _ r e hr with h1 | ⟨v, h1, h2⟩
        · exact hb args h r h1 hr
        · exact ⟨v, h, h2.symm, ACall.base h1⟩
      · exact hb
  · exact bad_good _

theorem runN_ok {AP : AProg} {B : CallPred} (hB : BaseMono B) {orc : Orc} (ho : OrcOk B orc) : ∀ n, (∀ f, GoodC AP B (.fn f) ((runN AP orc n).fn f)) ∧ ∀ l, GoodC AP B (.round l) ((runN AP orc n).rnd l)
  | 0 => ⟨fun _ => bad_good _, fun _ => bad_good _⟩
  | n + 1 =>
    have ih := runN_ok hB ho n
    ⟨fun f => fnC_ok hB ho ih.1 ih.2 f, fun l => rndB_ok hB ih.1 ih.2 l⟩

theorem same2_ok {x y : FV} {k r : Out} (e : same2 x y k = r) (hr : r ≠ .bad) : x.v = y.v ∧ k = r := by
  cases x with
  | fa l =>
    rcases onA_ok (show onA y (fun m => sameL l m k) .bad = r from e) hr with ⟨m, rfl, h2⟩ | h2
    · obtain ⟨h3, h4⟩ := sameL_ok h2 hr
      exact ⟨by simp only [FV.v, h3], h4⟩
    · exact absurd h2.symm hr
  | ft l =>
    rcases onT_ok (show onT y (fun m => sameL l m k) .bad = r from e) hr with ⟨m, rfl, h2⟩ | h2
    · obtain ⟨h3, h4⟩ := sameL_ok h2 hr
      exact ⟨by simp only [FV.v, h3], h4⟩
    · exact absurd h2.symm hr
  | _ => exact sameF_ok e hr

/-- A CLOSED CALL, BY THE KERNEL. -/
theorem closed_call {AP : AProg} {B : CallPred} (hB : BaseMono B) {orc : Orc} (ho : OrcOk B orc) {n : Nat} {f : FuncId} {args : List FV} {h : FH} {v : FV} (e : isV (((runN AP orc n).fn f).run args h) v = true) :
    ACall AP B (.fn f) (FV.vs args) h.heap fun v1 _ => v1 = v.v := by
  generalize hr : ((runN AP orc n).fn f).run args h = r at e
  cases r with
  | bad => cases e
  | ok x E h => cases e
  | val w h1 =>
    obtain ⟨w', h2, k1, k2⟩ := (runN_ok hB ho n).1 f args h _ hr (by simp)
    cases k1
    refine ACall.mono hB ?_ k2
    rintro v1 H1 ⟨rfl, _⟩
    generalize hs : same2 w v (.ok .normal (R8.all (R8.all (R8.all (.fo undef)))) ⟨R8.all (R8.all (R8.all (R8.all (R8.all .none)))), 0⟩) = s
    have e' : (Out.rec (motive := fun _ => Bool) false (fun _ _ _ => true) (fun _ _ => false) (same2 w v (.ok .normal (R8.all (R8.all (R8.all (.fo undef)))) ⟨R8.all (R8.all (R8.all (R8.all (R8.all .none)))), 0⟩)) : Bool) = true := e
    rw [hs] at e'
    cases s with
    | bad => cases e'
    | val _ _ => cases e'
    | ok x E h => exact (same2_ok hs (by simp)).1

end Ab
