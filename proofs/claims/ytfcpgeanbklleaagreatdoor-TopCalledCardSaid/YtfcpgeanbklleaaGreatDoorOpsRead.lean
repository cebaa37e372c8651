/- Operations that read memory. -/
import Derived.Test.YtfcpgeanbklleaaGreatDoorOpsPure
set_option linter.unusedSectionVars false
set_option linter.unusedSimpArgs false
set_option linter.unusedVariables false
namespace Ab
open Go

section
variable {P : Program} {j : Inj} {ρ ρ' : Operand → Value} {w : World} {H : Heap}

theorem Sim.cell (hs : Sim P j H w) {b o e : Nat} {s : Spot} {ro : Bool} {cs : List Value} {v : Value} (hj : j b = some s) (hg : H.get b = some (.cells ro e cs)) (hv : cs[o]? = some v) :
    ∃ v', w.cell? ⟨s.blk, s.sh + o, none⟩ = some v' ∧ VRel j v v' := by
  obtain ⟨c, t, fz, ho, _, hc, _⟩ := hs.blk _ _ _ hj hg
  obtain ⟨v', h1, h2⟩ := hc _ _ hv
  exact ⟨v', by simp [World.cell?, ho, h1], h2⟩

theorem list_choose {α : Type} {R : Nat → α → Prop} : ∀ n, (∀ i, i < n → ∃ a, R i a) → ∃ l : List α, l.length = n ∧ ∀ i a, l[i]? = some a → R i a
  | 0, _ => ⟨[], rfl, by simp⟩
  | n + 1, h => by
    obtain ⟨l, hl, hr⟩ := list_choose n fun i hi => h i (by omega)
    obtain ⟨a, ha⟩ := h n (by omega)
    refine ⟨l ++ [a], by simp [hl], fun i b hb => ?_⟩
    by_cases hi : i < n
    · exact hr i b (by rwa [List.getElem?_append_left (by omega)] at hb)
    · have : i = n := by
        have := (List.getElem?_eq_some_iff.1 hb).1
        simp at this; omega
      subst this
      rw [List.getElem?_append_right (by omega)] at hb
      simp [hl] at hb
      exact hb ▸ ha

/-- A row of cells, read. -/
theorem Sim.cells (hs : Sim P j H w) {b o e n : Nat} {s : Spot} {ro : Bool} {cs : List Value} (hj : j b = some s) (hg : H.get b = some (.cells ro e cs)) (hn : o + n ≤ cs.length) :
    ∃ cs' : List Value, (loadCells ⟨s.blk, s.sh + o, none⟩ n).run P w = .ok cs'.toArray w ∧ VsRel j ((cs.drop o).take n) cs' ∧ cs'.length = n := by
  obtain ⟨l, hl, hr⟩ := list_choose (R := fun i v' => w.cell? ⟨s.blk, s.sh + o + i, none⟩ = some v' ∧ ∀ v, cs[o + i]? = some v → VRel j v v') n fun i hi => by
    have hlt : o + i < cs.length := by omega
    obtain ⟨v', h1, h2⟩ := hs.cell hj hg (List.getElem?_eq_getElem hlt)
    refine ⟨v', by rw [← h1, Nat.add_assoc], fun v hv => ?_⟩
    rw [List.getElem?_eq_getElem hlt] at hv
    cases hv
    exact h2
  refine ⟨l, ?_, ?_, hl⟩
  · have := run_loadCells_list (P := P) w ⟨s.blk, s.sh + o, none⟩ l (fun i v hv => by rw [Addr.add_none]; exact (hr i v hv).1)
    rwa [hl] at this
  · refine VsRel.of_get (by simp [hl]; omega) fun i v v' hv hv' => ?_
    have hi : i < n := by have := (List.getElem?_eq_some_iff.1 hv').1; omega
    rw [List.getElem?_take_of_lt hi, List.getElem?_drop] at hv
    exact (hr i v' hv').2 v hv

theorem load_sound (hs : Sim P j H w) {t : TypeId} {agg : Option Nat} {x x' v : Value} (ha : aggOf P t = some agg) (hv : loadA H agg x = some v) (hx : VRel j x x') :
    ∃ v', (Instr.loadAt t x').run P w = .ok v' w ∧ VRel j v v' := by
  unfold aggOf at ha
  split at ha
  · rename_i i d hi hd
    simp only [Option.some.injEq] at ha
    unfold loadA at hv
    split at hv
    · rename_i b o
      obtain ⟨s, hj, rfl⟩ := hx.inv_ptr
      split at hv
      · rename_i ro e cs hg
        split at hv
        · -- one cell
          obtain ⟨v', h1, h2⟩ := hs.cell hj hg hv
          have hag : isAggB P t = false := by
            simp only [isAggB, hd]
            cases d <;> simp_all
          refine ⟨v', ?_, h2⟩
          simp [Instr.loadAt, Instr.sureAddr, loadVar, run_ia hd, hag, h1]
        · rename_i n
          split at hv
          · rename_i hn
            simp only [Option.some.injEq] at hv
            subst hv
            have hag : isAggB P t = true ∧ i.size = n := by
              simp only [isAggB, hd]
              cases d <;> simp_all
            obtain ⟨cs', h1, h2, h3⟩ := hs.cells hj hg hn
            refine ⟨.agg cs'.toArray, ?_, .agg h2⟩
            simp [Instr.loadAt, Instr.sureAddr, loadVar, run_ia hd, hag.1, run_so hi, hag.2, h1]
          · simp at hv
      · simp at hv
    · simp at hv
  · simp at ha

theorem ERel.keyEq {e e' : MapEntry} {kk : KK} {k k' : Value} {r : Bool} (he : ERel j e e') (hk : VRel j k k') (h : keyEq kk k e.key = some r) : keyEq kk k' e'.key = some r := by
  have h2 := he.key
  generalize e.key = a at h h2
  generalize e'.key = a' at h2 ⊢
  unfold Ab.keyEq at h
  split at h
  · rw [hk.inv_int, h2.inv_int]; exact h
  · rw [hk.inv_str, h2.inv_str]; exact h
  · rw [hk.inv_bool, h2.inv_bool]; exact h
  · obtain ⟨_, e1, h1'⟩ := hk.inv_agg
    obtain ⟨_, e2, h2'⟩ := h2.inv_agg
    rw [e1, e2]
    exact VsRel.cellsEq h1' h2' h
  · simp at h

theorem isKey_rel {kk : KK} {k k' : Value} (hk : VRel j k k') (h : isKey kk k = true) : isKey kk k' = true := by
  unfold isKey at h
  split at h
  · rw [hk.inv_int]; rfl
  · rw [hk.inv_str]; rfl
  · rw [hk.inv_bool]; rfl
  · obtain ⟨_, e1, h1'⟩ := hk.inv_agg
    obtain ⟨r, hr⟩ := Option.isSome_iff_exists.1 h
    rw [e1]
    simp only [isKey, VsRel.cellsEq h1' h1' hr, Option.isSome_some]
  · simp at h

/-- The comparison of keys, in the model. -/
theorem keyEq_run {t : TypeId} {kk : KK} {a b : Value} {r : Bool} (hk : keyOk P t = some kk) (h : keyEq kk a b = some r) :
    (∃ d, P.underlying t = some d ∧ Instr.sameNow d a b = some r) ∨ ((∃ d, P.underlying t = some d ∧ Instr.sameNow d a b = none) ∧ (Op.equal t a b).run P w = .ok r w) := by
  unfold keyOk at hk
  split at hk
  · rename_i k hu
    simp at hk; subst hk
    cases a <;> cases b <;> simp [keyEq] at h
    obtain ⟨rfl, h⟩ := h
    refine .inl ⟨_, hu, ?_⟩
    simp only [Instr.sameNow, if_true, ← h]
    rfl
  · rename_i hu
    simp at hk; subst hk
    cases a <;> cases b <;> simp [keyEq] at h
    exact .inl ⟨_, hu, by simp [Instr.sameNow, h]⟩
  · rename_i hu
    simp at hk; subst hk
    cases a <;> cases b <;> simp [keyEq] at h
    exact .inl ⟨_, hu, by simp [Instr.sameNow, h]⟩
  · rename_i fs hu
    cases hf : flat P t with
    | none => simp [hf] at hk
    | some ks =>
      simp [hf] at hk; subst hk
      cases a <;> cases b <;> simp [keyEq] at h
      exact .inr ⟨⟨_, hu, by simp [Instr.sameNow]⟩, (flat_run (d := 9998) hf h).1⟩
  · rename_i n e hu
    cases hf : flat P t with
    | none => simp [hf] at hk
    | some ks =>
      simp [hf] at hk; subst hk
      cases a <;> cases b <;> simp [keyEq] at h
      exact .inr ⟨⟨_, hu, by simp [Instr.sameNow]⟩, (flat_run (d := 9998) hf h).1⟩
  · simp at hk

theorem findEnt_rel {kk : KK} {k k' : Value} (hk : VRel j k k') : ∀ {es es' : List MapEntry} {i : Nat} {r : Option (Nat × Value)}, EsRel j es es' → findEnt kk k es i = some r →
    ∃ r', findEnt kk k' es' i = some r' ∧ (match r, r' with | none, none => True | some (a, v), some (a', v') => a = a' ∧ VRel j v v' | _, _ => False)
  | [], _, i, r, .nil, h => by
    simp only [findEnt, Option.some.injEq] at h
    subst h
    exact ⟨none, rfl, trivial⟩
  | e :: es, _, i, r, .cons he hes, h => by
    simp only [findEnt] at h ⊢
    split at h
    · rename_i hke
      simp only [Option.some.injEq] at h
      subst h
      rw [he.keyEq hk hke]
      exact ⟨_, rfl, rfl, he.val⟩
    · rename_i hke
      rw [he.keyEq hk hke]
      exact findEnt_rel hk hes h
    · simp at h

theorem findKey_run {t : TypeId} {kk : KK} {k : Value} (hk : keyOk P t = some kk) {es : List MapEntry} {r : Option (Nat × Value)} (h : findEnt kk k es 0 = some r) :
    (Instr.findKey t k es).run P w = .ok r w := by
  obtain ⟨d, hu⟩ : ∃ d, P.underlying t = some d := by
    unfold keyOk at hk
    split at hk <;> first | exact ⟨_, by assumption⟩ | simp at hk
  have asking : ∀ (es : List MapEntry) (i : Nat) (r : Option (Nat × Value)), findEnt kk k es i = some r → (∀ e ∈ es, ∀ r, keyEq kk k e.key = some r → (Op.equal t k e.key).run P w = .ok r w) → (Instr.findAsking t k es i).run P w = .ok r w := by
    intro es
    induction es with
    | nil => intro i r h _; simp only [findEnt, Option.some.injEq] at h; subst h; simp [Instr.findAsking]
    | cons e es ih =>
      intro i r h hall
      simp only [findEnt] at h
      split at h
      · rename_i hke
        simp only [Option.some.injEq] at h
        subst h
        simp [Instr.findAsking, hall e (by simp) _ hke]
      · rename_i hke
        simp [Instr.findAsking, hall e (by simp) _ hke, ih _ _ h fun e he => hall e (by simp [he])]
      · simp at h
  have now : ∀ (es : List MapEntry) (i : Nat) (r : Option (Nat × Value)), findEnt kk k es i = some r → (Instr.findNow d k es i = some r ∨ (Instr.findNow d k es i = none ∧ (∀ ks, kk = .flat ks → True) ∧ ∃ ks, kk = .flat ks)) := by
    intro es
    induction es with
    | nil => intro i r h; simp only [findEnt, Option.some.injEq] at h; subst h; exact .inl rfl
    | cons e es ih =>
      intro i r h
      simp only [findEnt] at h
      have step : ∀ b, keyEq kk k e.key = some b → (Instr.sameNow d k e.key = some b) ∨ (Instr.sameNow d k e.key = none ∧ ∃ ks, kk = .flat ks) := by
        intro b hb
        rcases keyEq_run (w := w) hk hb with ⟨d', h1, h2⟩ | ⟨⟨d', h1, h2⟩, _⟩
        · rw [hu] at h1; cases h1; exact .inl h2
        · rw [hu] at h1; cases h1
          refine .inr ⟨h2, ?_⟩
          cases kk with
          | flat ks => exact ⟨ks, rfl⟩
          | int => cases k <;> simp [keyEq] at hb; split at hb <;> simp_all [keyOk, Instr.sameNow]; (repeat' split at hk) <;> simp_all [Instr.sameNow]
          | str => cases k <;> simp [keyEq] at hb; split at hb <;> simp_all [keyOk, Instr.sameNow]; (repeat' split at hk) <;> simp_all [Instr.sameNow]
          | bool => cases k <;> simp [keyEq] at hb; split at hb <;> simp_all [keyOk, Instr.sameNow]; (repeat' split at hk) <;> simp_all [Instr.sameNow]
      split at h
      · rename_i hke
        simp only [Option.some.injEq] at h
        subst h
        rcases step _ hke with h1 | ⟨h1, h2⟩
        · exact .inl (by simp [Instr.findNow, h1])
        · exact .inr ⟨by simp [Instr.findNow, h1], fun _ _ => trivial, h2⟩
      · rename_i hke
        rcases step _ hke with h1 | ⟨h1, h2⟩
        · rcases ih _ _ h with h3 | ⟨h3, h4⟩
          · exact .inl (by simp [Instr.findNow, h1, h3])
          · exact .inr ⟨by simp [Instr.findNow, h1, h3], h4⟩
        · exact .inr ⟨by simp [Instr.findNow, h1], fun _ _ => trivial, h2⟩
      · simp at h
  rcases now es 0 r h with h1 | ⟨h1, _, ks, rfl⟩
  · simp [Instr.findKey, run_ul hu, h1]
  · simp only [Instr.findKey, Sem.run_bind, run_ul hu, Result.andThen_ok, h1]
    refine asking es 0 r h fun e _ b hb => ?_
    rcases keyEq_run (w := w) hk hb with ⟨d', h2, h3⟩ | ⟨_, h3⟩
    · exfalso
      rw [hu] at h2; cases h2
      cases k <;> simp [keyEq] at hb
      cases d <;> simp [Instr.sameNow] at h3
    · exact h3


theorem EsRel.length : ∀ {es es' : List MapEntry}, EsRel j es es' → es.length = es'.length
  | _, _, .nil => rfl
  | _, _, .cons _ t => by simp [EsRel.length t]

theorem Sim.mapAt (hs : Sim P j H w) {m m' : Value} {es : List MapEntry} {c : Nat} (hm : VRel j m m') (h : mapOf H m = some (es, c)) :
    (m' = .map none ∧ es = [] ∧ m = .map none) ∨ ∃ r s es', m = .map (some r) ∧ j r = some s ∧ m' = .map (some s.blk) ∧ H.get r = some (.map es c) ∧ w.heap[s.blk]? = some (.map es' c) ∧ EsRel j es es'.toList := by
  unfold mapOf at h
  split at h
  · simp only [Option.some.injEq, Prod.mk.injEq] at h
    obtain ⟨rfl, rfl⟩ := h
    cases hm
    exact .inl ⟨rfl, rfl, rfl⟩
  · rename_i r
    cases hm with
    | map hj =>
      rename_i s
      split at h
      · rename_i es1 c1 hg
        simp only [Option.some.injEq, Prod.mk.injEq] at h
        obtain ⟨rfl, rfl⟩ := h
        obtain ⟨_, es', ho, he⟩ := hs.blk _ _ _ hj hg
        exact .inr ⟨r, s, es', rfl, hj, rfl, hg, ho, he⟩
      · simp at h
  · simp at h

theorem run_getObj_map {r : Nat} {es : Array MapEntry} {c : Nat} (h : w.heap[r]? = some (.map es c)) : (getObj r).run P w = .ok (.map es c) w := by
  simp [getObj, Sem.run, h]

theorem okConst_rel (j : Inj) {v : Value} (h : okConst v = true) : VRel j v v := by
  unfold okConst at h
  split at h
  · rename_i cs
    obtain ⟨l⟩ := cs
    exact .agg (VsRel.closed j h)
  · rename_i cs
    obtain ⟨l⟩ := cs
    cases l with
    | nil => exact .tuple .nil
    | cons a l => simp at h
  · exact VRel.closedCell j h

theorem zeroVal_run {t : TypeId} {z : Value} (h : zeroVal P t = some z) : (zeroValue t).run P w = .ok z w ∧ okConst z = true := by
  unfold zeroVal at h
  split at h
  · rename_i i hi
    split at h
    · rename_i z0 hz
      split at h
      · rename_i hok
        simp only [Option.some.injEq] at h
        subst h
        exact ⟨by simp [zeroValue, run_ti hi, hz], hok⟩
      · simp at h
    · simp at h
  · simp at h

/-- THE THEOREM OF READS. -/
theorem read_sound (hs : Sim P j H w) {o : Oper} {a : AOp} {v : Value} (hc : cOp P o.op o.type = some a) (hcl : a.cls = .read) (hv : readOp ρ H a = some v) (hr : OpRel j ρ ρ' a) :
    ∃ v', (execOp ρ' o).run P w = .ok (.value v') w ∧ VRel j v v' := by
  obtain ⟨dst, op, type, pos, after, guard⟩ := o
  simp only at hc
  cases op with
  | load t x =>
    simp only [cOp, Option.map_eq_some_iff] at hc
    obtain ⟨g, hg, rfl⟩ := hc
    simp only [readOp] at hv
    obtain ⟨v', h1, h2⟩ := load_sound hs hg hv (hr x (by simp [AOp.operands]))
    exact ⟨v', exec_value (s := Instr.loadAt t (ρ' x)) rfl h1, h2⟩
  | slice t x lo hi mx =>
    simp only [cOp] at hc
    split at hc
    · rename_i e hu
      simp only [Option.map_eq_some_iff] at hc
      obtain ⟨i, hi0, rfl⟩ := hc
      simp only [readOp] at hv
      obtain ⟨v', g1, g2⟩ := slice_sound hs hu hi0 hv (hr x (by simp [AOp.operands])) (ORel.ev (ρ' := ρ') fun y hy => hr y (by simp only [AOp.operands, List.mem_cons, List.mem_append]; simp [hy])) (ORel.ev (ρ' := ρ') fun y hy => hr y (by simp only [AOp.operands, List.mem_cons, List.mem_append]; simp [hy])) (ORel.ev (ρ' := ρ') fun y hy => hr y (by simp only [AOp.operands, List.mem_cons, List.mem_append]; simp [hy]))
      exact ⟨v', exec_value (s := Instr.sliceAt t (ρ' x) (lo.map ρ') (hi.map ρ') (mx.map ρ')) rfl g1, g2⟩
    · split at hc
      · simp at hc
      · simp only [Option.some.injEq] at hc; subst hc; simp [AOp.cls] at hcl
    · split at hc
      · simp at hc
      · simp only [Option.map_eq_some_iff] at hc
        obtain ⟨i, hi0, rfl⟩ := hc
        simp [AOp.cls] at hcl
    · split at hc
      · split at hc
        · simp at hc
        · simp only [Option.map_eq_some_iff] at hc
          obtain ⟨i, hi0, rfl⟩ := hc
          simp [AOp.cls] at hcl
      · simp at hc
    · simp at hc
  | lookup t m k ok =>
    simp only [cOp] at hc
    split at hc
    · rename_i kt e hu
      split at hc
      · rename_i z kk hz hkk
        simp only [Option.some.injEq] at hc; subst hc
        have h1 := hr m (by simp [AOp.operands])
        have h2 := hr k (by simp [AOp.operands])
        obtain ⟨z1, z2⟩ := zeroVal_run (w := w) hz
        simp only [readOp] at hv
        split at hv
        · simp at hv
        · rename_i hkey
          have hkey' := isKey_rel h2 (by simpa using hkey)
          have hck : ∀ em, (Instr.checkKey em 10000 kt (ρ' k)).run P w = .ok () w := fun em => checkKey_run (d := 9998) hkk hkey'
          split at hv
          · rename_i es c hm
            have hfound : ∃ es' : Array MapEntry, ((ρ' m = .map none ∧ es' = #[]) ∨ ∃ b, ρ' m = .map (some b) ∧ w.heap[b]? = some (.map es' c)) ∧ EsRel j es es'.toList := by
              rcases hs.mapAt h1 hm with ⟨e1, rfl, _⟩ | ⟨r, s, es', _, hj, e1, hg, ho, he⟩
              · exact ⟨#[], .inl ⟨e1, rfl⟩, .nil⟩
              · exact ⟨es', .inr ⟨_, e1, ho⟩, he⟩
            obtain ⟨es', hf1, hf2⟩ := hfound
            have fin : ∀ (r' : Option (Nat × Value)), findEnt kk (ρ' k) es'.toList 0 = some r' → (execOp ρ' ⟨dst, .lookup t m k ok, type, pos, after, guard⟩).run P w =
                .ok (.value (if ok then .tuple #[(match r' with | some (_, v) => v | none => z), .bool r'.isSome] else (match r' with | some (_, v) => v | none => z))) w := by
              intro r' hr'
              refine exec_value (s := Instr.lookup t (ρ' m) (ρ' k) ok) rfl ?_
              have hfk := findKey_run (w := w) hkk hr'
              rcases hf1 with ⟨e1, rfl⟩ | ⟨b, e1, ho⟩
              · rw [e1]
                simp only [Instr.lookup, Sem.run_bind, run_ul hu, Result.andThen_ok, Sem.run_pure, hck, hfk]
                cases r' with
                | none => simp [z1]
                | some p => simp
              · rw [e1]
                simp only [Instr.lookup, Sem.run_bind, run_ul hu, Result.andThen_ok, Sem.run_pure, run_getObj_map ho, hck, hfk]
                cases r' with
                | none => simp [z1]
                | some p => simp
            split at hv
            · rename_i i x hfe
              simp only [Option.some.injEq] at hv
              obtain ⟨r', hr', hm'⟩ := findEnt_rel h2 hf2 hfe
              cases r' with
              | none => exact hm'.elim
              | some p =>
                obtain ⟨i', x'⟩ := p
                refine ⟨_, fin _ hr', ?_⟩
                subst hv
                cases ok
                · simpa using hm'.2
                · simp only [if_true, Option.isSome_some]
                  exact .tuple (.cons hm'.2 (.cons (.bool _) .nil))
            · rename_i hfe
              simp only [Option.some.injEq] at hv
              obtain ⟨r', hr', hm'⟩ := findEnt_rel h2 hf2 hfe
              cases r' with
              | some p => exact hm'.elim
              | none =>
                refine ⟨_, fin _ hr', ?_⟩
                subst hv
                have hzr := okConst_rel j z2
                cases ok
                · simpa using hzr
                · simp only [if_true, Option.isSome_none]
                  exact .tuple (.cons hzr (.cons (.bool _) .nil))
            · simp at hv
          · simp at hv
      · simp at hc
    · simp at hc
  | entry it =>
    simp only [cOp, Option.some.injEq] at hc; subst hc
    have h1 := hr it (by simp [AOp.operands])
    simp only [readOp] at hv
    split at hv
    · rename_i r hit
      rw [hit] at h1
      obtain ⟨s, hj, e1⟩ := h1.inv_ptr
      split at hv
      · rename_i m since seen stepped hg
        obtain ⟨h0, m', seen', ho, hseen, hm⟩ := hs.blk _ _ _ hj hg
        split at hv
        · rename_i stamp es clock hlast hgm
          split at hv
          · rename_i hclk
            split at hv
            · rename_i e hfind
              simp only [Option.some.injEq] at hv; subst hv
              cases m' with
              | none => exact hm.elim
              | some m' =>
                obtain ⟨sm, hjm, rfl⟩ := hm
                obtain ⟨_, es', hom, hes⟩ := hs.blk _ _ _ hjm hgm
                have hf : ∃ e', es'.toList.find? (·.born == stamp) = some e' ∧ ERel j e e' := by
                  clear hom hgm
                  generalize es'.toList = l at hes
                  induction hes with
                  | nil => simp at hfind
                  | cons he t ih =>
                    rename_i a a' as as'
                    simp only [List.find?_cons] at hfind ⊢
                    rw [← he.born]
                    split at hfind
                    · rename_i hb
                      simp only [Option.some.injEq] at hfind; subst hfind
                      exact ⟨a', by simp [hb], he⟩
                    · exact ih hfind
                obtain ⟨e', hf', he⟩ := hf
                refine ⟨.tuple #[e'.key, e'.val], exec_value (s := Instr.entry (ρ' it)) rfl ?_, .tuple (.cons he.key (.cons he.val .nil))⟩
                rw [e1, h0]
                have hb : seen'.back? = some stamp := by
                  rw [← hlast, ← hseen]; simp
                have hf2 : es'.find? (·.born == stamp) = some e' := by
                  rw [← Array.find?_toList]; exact hf'
                have hgo : (getObj s.blk).run P w = .ok (.mapIter (some sm.blk) since seen' stepped) w := by simp [getObj, Sem.run, ho]
                simp [Instr.entry, hgo, hb, run_getObj_map hom, hclk, hf2]
            · simp at hv
          · simp at hv
        · simp at hv
      · simp at hv
    · simp at hv
  | call c =>
    obtain ⟨callee, args, argTypes⟩ := c
    simp only [cOp] at hc
    split at hc
    · simp only [Option.some.injEq] at hc; subst hc; simp [AOp.cls] at hcl
    · simp at hc
    · rename_i b
      split at hc
      · rename_i x t hargs htys
        have ea : args = #[x] := Array.ext' hargs
        have et : argTypes = #[t] := Array.ext' htys
        subst ea et
        split at hc
        · simp only [Option.some.injEq] at hc; subst hc; simp [AOp.cls] at hcl
        · simp only [Option.some.injEq] at hc; subst hc; simp [AOp.cls] at hcl
        · simp only [Option.some.injEq] at hc; subst hc; simp [AOp.cls] at hcl
        · split at hc <;> simp at hc
          subst hc; simp [AOp.cls] at hcl
        · rename_i kt e hu
          simp only [Option.some.injEq] at hc; subst hc
          have h1 := hr x (by simp [AOp.operands])
          simp only [readOp, Option.map_eq_some_iff] at hv
          obtain ⟨⟨es, c⟩, hm, rfl⟩ := hv
          refine ⟨_, ?_, .int _ _⟩
          rcases hs.mapAt h1 hm with ⟨e1, rfl, _⟩ | ⟨r, s, es', _, hj, e1, hg, ho, he⟩
          · simp [execOp, resolve, invoke, builtin, Builtin.len_, e1, run_ul hu, goInt]
          · have := he.length
            simp at this
            simp [execOp, resolve, invoke, builtin, Builtin.len_, e1, run_ul hu, goInt, run_getObj_map ho, this]
        · simp at hc
      · split at hc
        · split at hc <;> simp at hc <;> (subst hc; simp [AOp.cls] at hcl)
        · simp at hc
      · split at hc
        · simp only [Option.map_eq_some_iff] at hc
          obtain ⟨_, _, rfl⟩ := hc
          simp [AOp.cls] at hcl
        · simp at hc
      · split at hc
        · split at hc <;> simp at hc
          subst hc; simp [AOp.cls] at hcl
        · simp at hc
      · simp only [Option.some.injEq] at hc; subst hc; simp [AOp.cls] at hcl
      · simp only [Option.some.injEq] at hc; subst hc; simp [AOp.cls] at hcl
      · simp at hc
  | move x => simp only [cOp, Option.some.injEq] at hc; subst hc; simp [AOp.cls] at hcl
  | assign x => simp only [cOp, Option.some.injEq] at hc; subst hc; simp [AOp.cls] at hcl
  | pick c x y => simp only [cOp, Option.some.injEq] at hc; subst hc; simp [AOp.cls] at hcl
  | unOp o t x => simp only [cOp, Option.some.injEq] at hc; subst hc; simp [AOp.cls] at hcl
  | alloc t => simp only [cOp, Option.map_eq_some_iff] at hc; obtain ⟨_, _, rfl⟩ := hc; simp [AOp.cls] at hcl
  | box t x => simp only [cOp, Option.some.injEq] at hc; subst hc; simp [AOp.cls] at hcl
  | store t x y => simp only [cOp, Option.map_eq_some_iff] at hc; obtain ⟨_, _, rfl⟩ := hc; simp [AOp.cls] at hcl
  | nilCheck x => simp only [cOp, Option.some.injEq] at hc; subst hc; simp [AOp.cls] at hcl
  | extract x i => simp only [cOp, Option.some.injEq] at hc; subst hc; simp [AOp.cls] at hcl
  | panic x => simp only [cOp, Option.some.injEq] at hc; subst hc; simp [AOp.cls] at hcl
  | next x s => cases s <;> simp only [cOp, Option.some.injEq, reduceCtorEq] at hc; subst hc; simp [AOp.cls] at hcl
  | makeMap t r => cases r <;> simp only [cOp, reduceCtorEq] at hc; split at hc <;> simp at hc; subst hc; simp [AOp.cls] at hcl
  | range t x => simp only [cOp] at hc; split at hc <;> simp at hc; subst hc; simp [AOp.cls] at hcl
  | makeFunc fn f c => cases fn <;> simp only [cOp, Option.some.injEq, reduceCtorEq] at hc; subst hc; simp [AOp.cls] at hcl
  | mapUpdate t m k x =>
    simp only [cOp] at hc
    split at hc
    · simp only [Option.map_eq_some_iff] at hc; obtain ⟨_, _, rfl⟩ := hc; simp [AOp.cls] at hcl
    · simp at hc
  | insert t m k x =>
    simp only [cOp] at hc
    split at hc
    · simp only [Option.map_eq_some_iff] at hc; obtain ⟨_, _, rfl⟩ := hc; simp [AOp.cls] at hcl
    · simp at hc
  | build t ps =>
    simp only [cOp] at hc
    split at hc
    · split at hc <;> simp at hc
      subst hc; simp [AOp.cls] at hcl
    · simp only [Option.map_eq_some_iff] at hc; obtain ⟨_, _, rfl⟩ := hc; simp [AOp.cls] at hcl
    · simp at hc
  | buildSlice t n ps =>
    simp only [cOp] at hc
    split at hc
    · split at hc
      · split at hc <;> simp at hc
        subst hc; simp [AOp.cls] at hcl
      · simp at hc
    · simp at hc
  | makeSlice t l c =>
    simp only [cOp] at hc
    split at hc
    · split at hc
      · split at hc <;> simp at hc
        subst hc; simp [AOp.cls] at hcl
      · simp at hc
    · simp at hc
  | binOp op t x y yt =>
    simp only [cOp] at hc
    (repeat' split at hc) <;> simp at hc <;> (subst hc; simp [AOp.cls] at hcl)
  | convert s d x => simp only [cOp] at hc; split at hc <;> simp at hc; subst hc; simp [AOp.cls] at hcl
  | fieldAddr s x f =>
    simp only [cOp] at hc
    split at hc
    · simp only [Option.bind_eq_some_iff] at hc
      obtain ⟨fd, _, i, _, hc⟩ := hc
      split at hc <;> simp at hc
      subst hc; simp [AOp.cls] at hcl
    · simp at hc
  | field s x f =>
    simp only [cOp] at hc
    split at hc
    · simp only [Option.bind_eq_some_iff] at hc
      obtain ⟨fd, _, hc⟩ := hc
      split at hc <;> simp at hc
      subst hc; simp [AOp.cls] at hcl
    · simp at hc
  | indexAddr t x i =>
    simp only [cOp] at hc
    split at hc
    · simp only [Option.map_eq_some_iff] at hc; obtain ⟨_, _, rfl⟩ := hc; simp [AOp.cls] at hcl
    · simp only [Option.map_eq_some_iff] at hc; obtain ⟨_, _, rfl⟩ := hc; simp [AOp.cls] at hcl
    · simp at hc
  | index t x i =>
    simp only [cOp] at hc
    split at hc
    · simp only [Option.some.injEq] at hc; subst hc; simp [AOp.cls] at hcl
    · split at hc <;> simp at hc
      subst hc; simp [AOp.cls] at hcl
    · simp at hc
  | makeInterface t x => simp only [cOp] at hc; split at hc <;> simp at hc; subst hc; simp [AOp.cls] at hcl
  | _ => simp [cOp] at hc

end
end Ab
