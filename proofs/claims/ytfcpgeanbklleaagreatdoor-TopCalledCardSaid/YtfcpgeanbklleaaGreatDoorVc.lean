/- Verification conditions: the abstract machine over environments. -/
import Derived.Test.YtfcpgeanbklleaaGreatDoorCore
set_option linter.unusedSectionVars false
set_option linter.unusedSimpArgs false
set_option linter.unusedVariables false
namespace Ab
open Go

/-- What the temporaries hold. -/
abbrev Env := Nat → Value

abbrev EPost := Ex → Env → Heap → Prop

def thenE (K : Env → Heap → Prop) (Q : EPost) : EPost
  | .normal, E, H => K E H
  | .jump j, E, H => Q (.jump j) E H

def upd (t : Nat) (v : Value) (E : Env) : Env := fun i => bif i == t then v else E i

def updO (d : Option Tmp) (v : Value) (E : Env) : Env :=
  match d with
  | some t => upd t v E
  | none => E

/-- On with a value, laid open. -/
def forceV (v : Value) (K : Value → Prop) : Prop :=
  match v with
  | .bool b => K (.bool b)
  | .int k n => K (.int k n)
  | .string s => K (.string s)
  | .pointer p => K (.pointer p)
  | .slice p n c => K (.slice p n c)
  | .map m => K (.map m)
  | .agg cs => K (.agg cs)
  | .tuple cs => K (.tuple cs)
  | .func f a c => K (.func f a c)
  | v => K v

theorem forceV_eq {v : Value} {K : Value → Prop} : forceV v K = K v := by
  cases v <;> rfl

def putE (d : Option Tmp) (v : Value) (E : Env) (K : Env → Prop) : Prop :=
  match d with
  | some t => forceV v fun v => K (upd t v E)
  | none => K E

theorem putE_eq {d : Option Tmp} {v : Value} {E : Env} {K : Env → Prop} : putE d v E K = K (updO d v E) := by
  cases d with
  | none => rfl
  | some t => simp only [putE, forceV_eq, updO]

def evE (E : Env) : Operand → Value
  | .tmp t => E t
  | .const v => v
  | .global g => .pointer (some ⟨g, 0, none⟩)
  | .func f => .func (.func f) #[] #[]

def brP (c : Bool) (A B : Prop) : Prop :=
  match c with
  | true => A
  | false => B

theorem brP_intro {c : Bool} {A B : Prop} (h1 : c = true → A) (h2 : c = false → B) : brP c A B := by
  cases c
  · exact h2 rfl
  · exact h1 rfl

def guardE (g : Option (Tmp × Bool)) (E : Env) (A B : Prop) : Prop :=
  match g with
  | none => A
  | some (t, true) => match E t with
    | .bool c => brP c A B
    | _ => B
  | some (t, false) => match E t with
    | .bool c => brP c B A
    | _ => B

/-- An address of an element. -/
structure idxP (arr : Option Nat) (esz : Nat) (x i : Value) (K : Value → Prop) : Prop where
  h : optV (pureOp (fun | .tmp 0 => x | _ => i) (.indexAddr arr esz (.tmp 0) (.tmp 1))) K
structure indexP (n esz : Nat) (agg : Bool) (x i : Value) (K : Value → Prop) : Prop where
  h : optV (pureOp (fun | .tmp 0 => x | _ => i) (.index n esz agg (.tmp 0) (.tmp 1))) K
structure loadP (H : Heap) (agg : Option Nat) (a : Value) (K : Value → Prop) : Prop where
  h : optV (loadA H agg a) K
structure sliceP (H : Heap) (esz : Nat) (x : Value) (lo hi mx : Option Value) (K : Value → Prop) : Prop where
  h : optV (sliceV H esz x lo hi mx) K
structure storeP (H : Heap) (size : Nat) (a v : Value) (K : Value → Heap → Prop) : Prop where
  h : optVH (writeOp (fun | .tmp 0 => a | _ => v) H (.store size (.tmp 0) (.tmp 1))) K
structure appendP (H : Heap) (esz bytes : Nat) (s x : Value) (K : Value → Heap → Prop) : Prop where
  h : optVH (appendA H esz bytes s x) K
structure copyP (H : Heap) (esz : Nat) (d s : Value) (K : Value → Heap → Prop) : Prop where
  h : optVH (copyA H esz d s) K
structure clearP (H : Heap) (esz : Nat) (z : List Value) (x : Value) (K : Value → Heap → Prop) : Prop where
  h : optVH ((clearA H esz z x).map fun H' => (.tuple #[], H')) K
structure makeP (H : Heap) (esz bytes : Nat) (z : List Value) (l c : Value) (K : Value → Heap → Prop) : Prop where
  h : match newOp (fun | .tmp 0 => l | _ => c) H (.makeSlice esz bytes z (.tmp 0) (.tmp 1) 0) with
  | some (b, f) => K (f H.size) (H.push b)
  | none => False
structure lookupP (H : Heap) (kk : KK) (zero : Value) (ok : Bool) (m k : Value) (K : Value → Prop) : Prop where
  h : optV (readOp (fun | .tmp 0 => m | _ => k) H (.lookup kk zero ok (.tmp 0) (.tmp 1))) K
structure mapUpdP (H : Heap) (kk : KK) (m k v : Value) (K : Value → Heap → Prop) : Prop where
  h : optVH ((mapUpdateA H kk m k v).map fun H' => (undef, H')) K
structure callP (X : CallPred) (f : Value) (args : List Value) (H : Heap) (K : Value → Heap → Prop) : Prop where
  h : callWp X f args H K
structure loopE (body : Env → Heap → EPost → Prop) (E : Env) (H : Heap) (Q : EPost) : Prop where
  h : ∀ I : Env → Heap → Prop, (∀ E H, body E H (thenE I Q) → I E H) → I E H

/-- A comparison: both answers are gone on with. -/
structure ifP (c : Prop) (K : Value → Prop) : Prop where
  yes : c → K (.bool true)
  no : ¬ c → K (.bool false)

/-- A number that must not wrap. -/
structure numP (r : Int) (K : Value → Prop) : Prop where
  fits : inI r
  go : K (.int .i64 r)

/-- Numbers: what must not wrap is asked. -/
def arithP (k : IntKind) (r : Int) (K : Value → Prop) : Prop :=
  match k with
  | .i64 => numP r K
  | k => K (.int k (k.wrap r))

structure divP (a b : Int) (K : Value → Prop) : Prop where
  ne : b ≠ 0
  fits : inI (a.tdiv b)
  go : K (.int .i64 (a.tdiv b))

structure modP (a b : Int) (K : Value → Prop) : Prop where
  ne : b ≠ 0
  go : K (.int .i64 (a.tmod b))

def binP (op : BinOp) (x y : Value) (K : Value → Prop) : Prop :=
  match op, x, y with
  | .add, .int .i64 a, .int .i64 b => numP (a + b) K
  | .sub, .int .i64 a, .int .i64 b => numP (a - b) K
  | .mul, .int .i64 a, .int .i64 b => numP (a * b) K
  | .add, .int k a, .int k' b => k = k' ∧ arithP k (a + b) K
  | .sub, .int k a, .int k' b => k = k' ∧ arithP k (a - b) K
  | .mul, .int k a, .int k' b => k = k' ∧ arithP k (a * b) K
  | .quo, .int .i64 a, .int .i64 b => divP a b K
  | .rem, .int .i64 a, .int .i64 b => modP a b K
  | .eql, .int .i64 a, .int .i64 b => ifP (a = b) K
  | .neq, .int .i64 a, .int .i64 b => ifP (a ≠ b) K
  | .lss, .int .i64 a, .int .i64 b => ifP (a < b) K
  | .leq, .int .i64 a, .int .i64 b => ifP (a ≤ b) K
  | .gtr, .int .i64 a, .int .i64 b => ifP (b < a) K
  | .geq, .int .i64 a, .int .i64 b => ifP (b ≤ a) K
  | op, x, y => optV (binV op x y) K

theorem ifP_sound {c : Prop} [Decidable c] {K : Value → Prop} (h : ifP c K) : K (.bool (decide c)) := by
  by_cases hc : c
  · rw [decide_eq_true hc]; exact h.yes hc
  · rw [decide_eq_false hc]; exact h.no hc

theorem binP_sound {op : BinOp} {x y : Value} {K : Value → Prop} (h : binP op x y K) : optV (binV op x y) K := by
  have key : ∀ {k : IntKind} {r : Int}, arithP k r K → optV (arith k r) K := by
    intro k r h
    unfold arithP at h
    unfold arith
    split at h
    · simp only [chk, if_pos h.fits]; exact h.go
    · split
      · rename_i hne; exact absurd rfl hne
      · exact h
  unfold binP at h
  split at h
  · simp only [binV, if_true, binInt, arith, chk, if_pos h.fits]; exact h.go
  · simp only [binV, if_true, binInt, arith, chk, if_pos h.fits]; exact h.go
  · simp only [binV, if_true, binInt, arith, chk, if_pos h.fits]; exact h.go
  · obtain ⟨rfl, h⟩ := h; simp only [binV, if_true, binInt]; exact key h
  · obtain ⟨rfl, h⟩ := h; simp only [binV, if_true, binInt]; exact key h
  · obtain ⟨rfl, h⟩ := h; simp only [binV, if_true, binInt]; exact key h
  · simp only [binV, if_true, binInt, chk, if_pos (And.intro h.ne h.fits)]; exact h.go
  · simp only [binV, if_true, binInt, chk, if_pos h.ne]; exact h.go
  · simp only [binV, if_true, binInt]; exact ifP_sound h
  · simp only [binV, if_true, binInt]; exact ifP_sound h
  · simp only [binV, if_true, binInt]; exact ifP_sound h
  · simp only [binV, if_true, binInt]; exact ifP_sound h
  · simp only [binV, if_true, binInt]; exact ifP_sound h
  · simp only [binV, if_true, binInt]; exact ifP_sound h
  · exact h

def vcAct (X : CallPred) (op : AOp) (ρ : Operand → Value) (H : Heap) (K : Value → Heap → Prop) : Prop :=
  match op with
  | .bin o x y => binP o (ρ x) (ρ y) fun v => K v H
  | .indexAddr arr esz x i => idxP arr esz (ρ x) (ρ i) fun v => K v H
  | .index n esz agg x i => indexP n esz agg (ρ x) (ρ i) fun v => K v H
  | .load agg a => loadP H agg (ρ a) fun v => K v H
  | .slice esz x lo hi mx => sliceP H esz (ρ x) (oEv ρ lo) (oEv ρ hi) (oEv ρ mx) fun v => K v H
  | .store size a v => storeP H size (ρ a) (ρ v) K
  | .append esz bytes _ s x _ => appendP H esz bytes (ρ s) (ρ x) K
  | .copy esz d s => copyP H esz (ρ d) (ρ s) K
  | .clear esz z x => clearP H esz z (ρ x) K
  | .makeSlice esz bytes z l c _ => makeP H esz bytes z (ρ l) (ρ c) K
  | .lookup kk z ok m k => lookupP H kk z ok (ρ m) (ρ k) fun v => K v H
  | .mapUpdate kk m k v => mapUpdP H kk (ρ m) (ρ k) (ρ v) K
  | .call f args => callP X (ρ f) (args.map ρ) H K
  | op => actWp X op ρ H K

theorem vcAct_sound {X : CallPred} {op : AOp} {ρ : Operand → Value} {H : Heap} {K : Value → Heap → Prop} (h : vcAct X op ρ H K) : actWp X op ρ H K := by
  cases op <;> first | exact h | skip
  · exact binP_sound h
  · rename_i arr esz x i
    exact h.h
  · exact h.h
  · exact h.h
  · exact h.h
  · exact h.h
  · exact h.h
  · exact h.h
  · exact h.h
  · exact h.h
  · exact h.h
  · exact h.h
  · exact h.h

def keepsE (l : List Operand) (E : Env) (H H' : Heap) (A : Prop) : Prop :=
  List.rec (motive := fun _ => Prop) A (fun x _ ih => keepV (evE E x) H H' ∧ ih) l

def vcOps (X : CallPred) (l : List AOper) : Env → Heap → (Env → Heap → Prop) → Prop :=
  List.rec (motive := fun _ => Env → Heap → (Env → Heap → Prop) → Prop) (fun E H K => K E H)
    (fun o _ ih E H K => guardE o.guard E (vcAct X o.op (evE E) H fun v H' => keepsE o.pend E H H' (putE o.dst v E fun E => ih E H' K)) (putE o.dst undef E fun E => ih E H K)) l

def blockE (id : Nat) (Q : EPost) : EPost
  | .normal, E, H => Q .normal E H
  | .jump (.exit i), E, H => bif i == id then Q .normal E H else Q (.jump (.exit i)) E H
  | .jump .ret, E, H => Q (.jump .ret) E H

def Fits' (n : Nat) (T : List Value) (E : Env) : Prop := T.length = n ∧ ∀ i, T.getD i undef = E i

structure rangeE (X : CallPred) (cx : Ctx) (n : Nat) (f : Value) (params : List Tmp) (assign body : ACode) (E : Env) (H : Heap) (Q : EPost) : Prop where
  h : roundOk cx H ∧ ∀ T, Fits' n T E → callWp X f [.func (.yield H.size) #[] #[]] (H.push (.loop { state := .ready, pending := none, fn := cx.fn, tmps := T, params, assign, body })) fun _ H' =>
    match H'.get H.size with
    | some (.loop r) => r.state ≠ .busy ∧ Q (AJump.toEx r.pending) E (H'.set H.size (.loop { r with state := .exhausted }))
    | _ => False

/-- A loop, with its text. -/
structure loopV (X : CallPred) (cx : Ctx) (n : Nat) (c : ACode) (body : Env → Heap → EPost → Prop) (E : Env) (H : Heap) (Q : EPost) : Prop where
  h : loopE body E H Q

def condE (v : Value) (A B : Prop) : Prop :=
  match v with
  | .bool c => brP c A B
  | _ => False

def vc (X : CallPred) (cx : Ctx) (n : Nat) (c : ACode) : Env → Heap → EPost → Prop :=
  ACode.rec (motive := fun _ => Env → Heap → EPost → Prop)
    (fun E H Q => Q .normal E H)
    (fun l E H Q => vcOps X l E H (Q .normal))
    (fun _ _ ia ib E H Q => ia E H (thenE (fun E H => ib E H Q) Q))
    (fun c _ _ ia ib E H Q => condE (evE E c) (ia E H Q) (ib E H Q))
    (fun id _ ic E H Q => ic E H (blockE id Q))
    (fun c ic E H Q => loopV X cx n c ic E H Q)
    (fun f params assign body _ _ E H Q => rangeE X cx n (evE E f) params assign body E H Q)
    (fun _ ic E H Q => ic E H Q)
    (fun j E H Q => Q (.jump j) E H) c

def okOps (n : Nat) (l : List AOper) : Bool := l.all fun o => match o.dst with
  | some t => decide (t < n)
  | none => true

def okCode (n : Nat) : ACode → Bool
  | .ops l => okOps n l
  | .seq a b => okCode n a && okCode n b
  | .cond _ a b => okCode n a && okCode n b
  | .block _ c | .loop c | .scope c => okCode n c
  | _ => true

theorem Fits'.ev {n : Nat} {T : List Value} {E : Env} (h : Fits' n T E) : Ab.ev T = evE E := by
  funext x
  cases x with
  | tmp t => exact h.2 t
  | _ => rfl

theorem Fits'.put {n : Nat} {T : List Value} {E : Env} (h : Fits' n T E) {d : Option Tmp} {v : Value} (hd : ∀ t, d = some t → t < n) : Fits' n (Ab.put d v T) (updO d v E) := by
  cases d with
  | none => exact h
  | some t =>
    refine ⟨by simp [Ab.put, h.1], fun i => ?_⟩
    simp only [Ab.put, updO, upd]
    by_cases hi : i = t
    · subst hi
      have : i < T.length := by rw [h.1]; exact hd i rfl
      simp [List.getD, this]
    · have : (i == t) = false := by simp [hi]
      rw [this, cond_false, ← h.2 i]
      simp [List.getD, List.getElem?_set_ne (Ne.symm hi)]

theorem keepsE_sound {n : Nat} {T : List Value} {E : Env} (h : Fits' n T E) {H H' : Heap} {A : Prop} : ∀ {l : List Operand}, keepsE l E H H' A → keeps l T H H' ∧ A
  | [], ha => ⟨trivial, ha⟩
  | x :: l, ha => by
    obtain ⟨h1, h2⟩ := keepsE_sound h ha.2
    exact ⟨⟨by rw [h.ev]; exact ha.1, h1⟩, h2⟩

def LiftK (n : Nat) (K : Env → Heap → Prop) (T : List Value) (H : Heap) : Prop := ∃ E, Fits' n T E ∧ K E H
def LiftQ (n : Nat) (Q : EPost) : Post := fun e T H => ∃ E, Fits' n T E ∧ Q e E H

section
variable {X : CallPred} (hX : CallMono X X)
include hX

theorem vcOps_sound {n : Nat} : ∀ {l : List AOper} {T : List Value} {E : Env} {H : Heap} {K : Env → Heap → Prop}, okOps n l = true → Fits' n T E → vcOps X l E H K → opsWp X l T H (LiftK n K)
  | [], T, E, H, K, _, hT, h => ⟨E, hT, h⟩
  | o :: rest, T, E, H, K, hok, hT, h => by
    simp only [okOps, List.all_cons, Bool.and_eq_true] at hok
    have hd : ∀ t, o.dst = some t → t < n := by
      intro t ht
      have := hok.1
      rw [ht] at this
      simpa using this
    have yes : ∀ {K'}, K' = K → (vcAct X o.op (evE E) H fun v H' => keepsE o.pend E H H' (putE o.dst v E fun E => vcOps X rest E H' K)) → actWp X o.op (Ab.ev T) H fun v H' => keeps o.pend T H H' ∧ opsWp X rest (Ab.put o.dst v T) H' (LiftK n K) := by
      intro _ _ ha
      rw [hT.ev]
      refine actWp_mono hX ?_ (vcAct_sound ha)
      intro v H' hk
      obtain ⟨k1, k2⟩ := keepsE_sound hT hk
      rw [putE_eq] at k2
      exact ⟨k1, vcOps_sound hok.2 (hT.put hd) k2⟩
    have no : (putE o.dst undef E fun E => vcOps X rest E H K) → opsWp X rest (Ab.put o.dst undef T) H (LiftK n K) := fun h => by
      rw [putE_eq] at h
      exact vcOps_sound hok.2 (hT.put hd) h
    have h : guardE o.guard E (vcAct X o.op (evE E) H fun v H' => keepsE o.pend E H H' (putE o.dst v E fun E => vcOps X rest E H' K)) (putE o.dst undef E fun E => vcOps X rest E H K) := h
    unfold opsWp
    unfold guardE at h
    unfold wantB
    split at h
    · rename_i hg
      simp only [hg, if_true]
      exact yes rfl h
    · rename_i t hg
      simp only [hg]
      rw [hT.2 t]
      split at h
      · rename_i c hc
        simp only [hc]
        cases c
        · rw [if_neg (by simp)]; exact no h
        · rw [if_pos (by simp)]; exact yes rfl h
      · rename_i hne
        rw [if_neg (by
          split
          · rename_i c hc; exact absurd hc (hne c)
          · simp)]
        exact no h
    · rename_i t hg
      simp only [hg]
      rw [hT.2 t]
      split at h
      · rename_i c hc
        simp only [hc]
        cases c
        · rw [if_pos (by simp)]; exact yes rfl h
        · rw [if_neg (by simp)]; exact no h
      · rename_i hne
        rw [if_neg (by
          split
          · rename_i c hc; exact absurd hc (hne c)
          · simp)]
        exact no h

theorem vc_sound {cx : Ctx} {n : Nat} : ∀ {c : ACode} {T : List Value} {E : Env} {H : Heap} {Q : EPost}, okCode n c = true → Fits' n T E → vc X cx n c E H Q → wp X cx c T H (LiftQ n Q)
  | .skip, T, E, H, Q, _, hT, h => ⟨E, hT, h⟩
  | .ops l, T, E, H, Q, hok, hT, h => vcOps_sound hX hok hT h
  | .seq a b, T, E, H, Q, hok, hT, h => by
    simp only [okCode, Bool.and_eq_true] at hok
    unfold wp
    refine wp_mono hX _ _ _ _ _ ?_ (vc_sound hok.1 hT h)
    rintro e T' H' ⟨E', hT', h'⟩
    cases e with
    | normal => exact vc_sound hok.2 hT' h'
    | jump j => exact ⟨E', hT', h'⟩
  | .cond c a b, T, E, H, Q, hok, hT, h => by
    simp only [okCode, Bool.and_eq_true] at hok
    have h : condE (evE E c) (vc X cx n a E H Q) (vc X cx n b E H Q) := h
    unfold condE at h
    unfold wp
    rw [hT.ev]
    split at h
    · rename_i c hc
      rw [hc]
      cases c
      · exact vc_sound hok.2 hT h
      · exact vc_sound hok.1 hT h
    · exact h.elim
  | .block id c, T, E, H, Q, hok, hT, h => by
    unfold wp
    refine wp_mono hX _ _ _ _ _ ?_ (vc_sound (c := c) hok hT h)
    rintro e T' H' ⟨E', hT', h'⟩
    cases e with
    | normal => exact ⟨E', hT', h'⟩
    | jump j =>
      cases j with
      | ret => exact ⟨E', hT', h'⟩
      | exit i =>
        simp only [blockE] at h'
        simp only [blockP]
        by_cases hi : i = id
        · rw [if_pos hi]
          have : (i == id) = true := by simp [hi]
          rw [this] at h'
          exact ⟨E', hT', h'⟩
        · rw [if_neg hi]
          have : (i == id) = false := by simp [hi]
          rw [this] at h'
          exact ⟨E', hT', h'⟩
  | .loop c, T, E, H, Q, hok, hT, h => by
    have h' : loopE (fun E H Q => vc X cx n c E H Q) E H Q := loopV.h (show loopV X cx n c (vc X cx n c) E H Q from h)
    intro J hJ
    refine h'.h (fun E H => ∀ T, Fits' n T E → J T H) ?_ T hT
    intro E H hb T hT
    refine hJ T H (wp_mono hX _ _ _ _ _ ?_ (vc_sound (c := c) hok hT hb))
    rintro e T' H' ⟨E', hT', h''⟩
    cases e with
    | normal => exact h'' T' hT'
    | jump j => exact ⟨E', hT', h''⟩
  | .range f params assign body, T, E, H, Q, hok, hT, h => by
    have h' : rangeE X cx n (evE E f) params assign body E H Q := h
    unfold wp
    rw [hT.ev]
    refine ⟨h'.h.1, callWp_mono hX ?_ (h'.h.2 T hT)⟩
    intro v H' hq
    unfold endRange
    split at hq
    · rename_i r hg
      rw [hg]
      exact ⟨hq.1, E, hT, hq.2⟩
    · exact hq.elim
  | .scope c, T, E, H, Q, hok, hT, h => by
    unfold wp
    exact vc_sound (c := c) hok hT h
  | .jump j, T, E, H, Q, _, hT, h => ⟨E, hT, h⟩
end

/-! ### Functions -/

def envOf (args : List Value) : Env := fun i => args.getD i undef

def resE (H : Heap) (E : Env) (l : List ARes) : (List Value → Prop) → Prop :=
  List.rec (motive := fun _ => (List Value → Prop) → Prop) (fun K => K []) (fun r _ ih K => match r with
    | .tmp t => forceV (E t) fun v => ih fun vs => K (v :: vs)
    | .cell agg a => loadP H agg (E a) fun v => ih fun vs => K (v :: vs)) l

theorem resE_sound {n : Nat} {H : Heap} {T : List Value} {E : Env} (hT : Fits' n T E) : ∀ {rs : List ARes} {K : List Value → Prop}, resE H E rs K → ∃ vs, resAll H T rs = some vs ∧ K vs
  | [], K, h => ⟨[], rfl, h⟩
  | .tmp t :: rest, K, h => by
    have h : forceV (E t) (fun v => resE H E rest fun vs => K (v :: vs)) := h
    rw [forceV_eq] at h
    obtain ⟨vs, h1, h2⟩ := resE_sound hT (rs := rest) h
    refine ⟨E t :: vs, ?_, h2⟩
    simp only [resAll, resA, h1, hT.2 t]
  | .cell agg a :: rest, K, h => by
    have h : loadP H agg (E a) (fun v => resE H E rest fun vs => K (v :: vs)) := h
    have h := h.h
    cases hl : loadA H agg (E a) with
    | none => rw [hl] at h; exact h.elim
    | some v =>
      rw [hl] at h
      obtain ⟨vs, h1, h2⟩ := resE_sound hT (rs := rest) h
      refine ⟨v :: vs, ?_, h2⟩
      simp only [resAll, resA, h1, hT.2 a, hl]

def outE (R : Value → Heap → Prop) (H : Heap) : List Value → Prop
  | [v] => R v H
  | vs => R (.tuple ⟨vs⟩) H

theorem outE_eq {R : Value → Heap → Prop} {H : Heap} {vs : List Value} (h : outE R H vs) : R (resV vs) H := by
  match vs, h with
  | [], h => exact h
  | [_], h => exact h
  | _ :: _ :: _, h => exact h

def bodyE (fn : AFunc) (R : Value → Heap → Prop) : EPost
  | .normal, E, H => resE H E fn.results (outE R H)
  | .jump .ret, E, H => resE H E fn.results (outE R H)
  | .jump (.exit _), _, _ => False

/-- A CALL OF A FUNCTION. -/
theorem run_fn {AP : AProg} {B : CallPred} (hB : BaseMono B) {f : FuncId} {a : AFunc} {args : List Value} {H : Heap} {R : Value → Heap → Prop} (ha : AP f = some a) (hok : okCode a.ntmps a.body = true) (hn : args.length = a.nargs) (hm : a.nargs ≤ a.ntmps)
    (h : vc (ACall AP B) ⟨f, none⟩ a.ntmps a.body (envOf args) H (bodyE a R)) : ACall AP B (.fn f) args H R := by
  refine ACall.fold hB ?_
  simp only [callBody, ha]
  refine ⟨hn, ?_⟩
  have hT : Fits' a.ntmps (args ++ List.replicate (a.ntmps - args.length) undef) (envOf args) := by
    refine ⟨by simp; omega, fun i => ?_⟩
    simp only [envOf]
    by_cases hi : i < args.length
    · simp [List.getD, List.getElem?_append_left hi]
    · simp only [List.getD, List.getElem?_append_right (Nat.le_of_not_lt hi)]
      rw [List.getElem?_eq_none_iff.2 (Nat.le_of_not_lt hi)]
      rw [List.getElem?_replicate]
      split <;> rfl
  refine wp_mono (CallMono.acall hB) _ _ _ _ _ ?_ (vc_sound (CallMono.acall hB) hok hT h)
  rintro e T' H' ⟨E', hT', h'⟩
  have fin : resE H' E' a.results (outE R H') → retP H' T' a.results R := by
    intro hr
    obtain ⟨vs, h1, h2⟩ := resE_sound hT' hr
    unfold retP
    rw [h1]; exact outE_eq h2
  cases e with
  | normal => exact fin h'
  | jump j =>
    cases j with
    | ret => exact fin h'
    | exit i => exact h'.elim

/-! ### Monotone -/

theorem brP_mono {c : Bool} {A A' B B' : Prop} (h1 : A → A') (h2 : B → B') (h : brP c A B) : brP c A' B' := by
  cases c
  · exact h2 h
  · exact h1 h

theorem guardE_mono {g : Option (Tmp × Bool)} {E : Env} {A A' B B' : Prop} (h1 : A → A') (h2 : B → B') (h : guardE g E A B) : guardE g E A' B' := by
  unfold guardE at *
  split at h
  · exact h1 h
  · split at h
    · exact brP_mono h1 h2 h
    · exact h2 h
  · split at h
    · exact brP_mono h2 h1 h
    · exact h2 h

theorem binP_mono {op : BinOp} {x y : Value} {K K' : Value → Prop} (hk : ∀ v, K v → K' v) (h : binP op x y K) : binP op x y K' := by
  have ar : ∀ {k : IntKind} {r : Int}, arithP k r K → arithP k r K' := by
    intro k r h
    unfold arithP at *
    split at h
    · exact ⟨h.fits, hk _ h.go⟩
    · exact hk _ h
  unfold binP at *
  split at h
  · exact ⟨h.fits, hk _ h.go⟩
  · exact ⟨h.fits, hk _ h.go⟩
  · exact ⟨h.fits, hk _ h.go⟩
  · exact ⟨h.1, ar h.2⟩
  · exact ⟨h.1, ar h.2⟩
  · exact ⟨h.1, ar h.2⟩
  · exact ⟨h.ne, h.fits, hk _ h.go⟩
  · exact ⟨h.ne, hk _ h.go⟩
  · exact ⟨fun c => hk _ (h.yes c), fun c => hk _ (h.no c)⟩
  · exact ⟨fun c => hk _ (h.yes c), fun c => hk _ (h.no c)⟩
  · exact ⟨fun c => hk _ (h.yes c), fun c => hk _ (h.no c)⟩
  · exact ⟨fun c => hk _ (h.yes c), fun c => hk _ (h.no c)⟩
  · exact ⟨fun c => hk _ (h.yes c), fun c => hk _ (h.no c)⟩
  · exact ⟨fun c => hk _ (h.yes c), fun c => hk _ (h.no c)⟩
  · exact optV_mono hk h

section
variable {X : CallPred} (hX : CallMono X X)
include hX

theorem vcAct_mono {op : AOp} {ρ : Operand → Value} {H : Heap} {K K' : Value → Heap → Prop} (hk : ∀ v H, K v H → K' v H) (h : vcAct X op ρ H K) : vcAct X op ρ H K' := by
  cases op <;> simp only [vcAct] at h ⊢ <;> first | exact actWp_mono hX hk h | skip
  · exact binP_mono (fun v => hk v H) h
  · exact ⟨optV_mono (fun v => hk v H) h.h⟩
  · exact ⟨optV_mono (fun v => hk v H) h.h⟩
  · exact ⟨optV_mono (fun v => hk v H) h.h⟩
  · exact ⟨optV_mono (fun v => hk v H) h.h⟩
  · exact ⟨optV_mono (fun v => hk v H) h.h⟩
  · have h := h.h
    refine ⟨?_⟩
    split at h
    · exact hk _ _ h
    · exact h
  · exact ⟨optVH_mono hk h.h⟩
  · exact ⟨optVH_mono hk h.h⟩
  · exact ⟨optVH_mono hk h.h⟩
  · exact ⟨optVH_mono hk h.h⟩
  · exact ⟨optVH_mono hk h.h⟩
  · exact ⟨callWp_mono hX hk h.h⟩

theorem keepsE_mono {E : Env} {H H' : Heap} {A A' : Prop} (ha : A → A') : ∀ {l : List Operand}, keepsE l E H H' A → keepsE l E H H' A'
  | [], h => ha h
  | _ :: _, h => ⟨h.1, keepsE_mono ha h.2⟩

theorem vcOps_mono : ∀ {l : List AOper} {E : Env} {H : Heap} {K K' : Env → Heap → Prop}, (∀ E H, K E H → K' E H) → vcOps X l E H K → vcOps X l E H K'
  | [], E, H, K, K', hk, h => hk _ _ h
  | o :: rest, E, H, K, K', hk, h => guardE_mono (fun h => vcAct_mono hX (fun v H' h => keepsE_mono hX (fun h => by rw [putE_eq] at h ⊢; exact vcOps_mono hk h) h) h) (fun h => by rw [putE_eq] at h ⊢; exact vcOps_mono hk h) h

theorem vc_mono {cx : Ctx} {n : Nat} : ∀ {c : ACode} {E : Env} {H : Heap} {Q Q' : EPost}, (∀ e E H, Q e E H → Q' e E H) → vc X cx n c E H Q → vc X cx n c E H Q'
  | .skip, E, H, Q, Q', hq, h => hq _ _ _ h
  | .ops l, E, H, Q, Q', hq, h => vcOps_mono hX (hq _) h
  | .seq a b, E, H, Q, Q', hq, h => by
    refine vc_mono (c := a) (Q := thenE (fun E H => vc X cx n b E H Q) Q) (Q' := thenE (fun E H => vc X cx n b E H Q') Q') ?_ h
    intro e E H h
    cases e with
    | normal => exact vc_mono (c := b) hq h
    | jump j => exact hq _ _ _ h
  | .cond c a b, E, H, Q, Q', hq, h => by
    have h : condE (evE E c) (vc X cx n a E H Q) (vc X cx n b E H Q) := h
    show condE (evE E c) (vc X cx n a E H Q') (vc X cx n b E H Q')
    unfold condE at *
    split at h
    · exact brP_mono (vc_mono (c := a) hq) (vc_mono (c := b) hq) h
    · exact h
  | .block id c, E, H, Q, Q', hq, h => by
    refine vc_mono (c := c) (Q := blockE id Q) (Q' := blockE id Q') ?_ h
    intro e E H h
    cases e with
    | normal => exact hq _ _ _ h
    | jump j =>
      cases j with
      | ret => exact hq _ _ _ h
      | exit i =>
        simp only [blockE] at *
        cases hi : (i == id) <;> rw [hi] at h
        · exact hq _ _ _ h
        · exact hq _ _ _ h
  | .loop c, E, H, Q, Q', hq, h => by
    have h' : loopE (fun E H Q => vc X cx n c E H Q) E H Q := loopV.h (show loopV X cx n c (vc X cx n c) E H Q from h)
    show loopV X cx n c (vc X cx n c) E H Q'
    refine ⟨⟨fun I hI => ?_⟩⟩
    refine h'.h I fun E H hb => hI E H ?_
    refine vc_mono (c := c) ?_ hb
    intro e E H h
    cases e with
    | normal => exact h
    | jump j => exact hq _ _ _ h
  | .range f params assign body, E, H, Q, Q', hq, h => by
    have h' : rangeE X cx n (evE E f) params assign body E H Q := h
    show rangeE X cx n (evE E f) params assign body E H Q'
    refine ⟨h'.h.1, fun T hT => callWp_mono hX ?_ (h'.h.2 T hT)⟩
    intro v H' h
    split at h
    · exact ⟨h.1, hq _ _ _ h.2⟩
    · exact h.elim
  | .scope c, E, H, Q, Q', hq, h => by
    exact vc_mono (c := c) hq h
  | .jump j, E, H, Q, Q', hq, h => hq _ _ _ h
end

/-- THE RULE OF LOOPS. -/
theorem loopE_rule {X : CallPred} (hX : CallMono X X) {cx : Ctx} {n : Nat} {c : ACode} {Q : EPost}
    (I : Env → Heap → Prop) (μ : Env → Heap → Nat) {E : Env} {H : Heap} (h0 : I E H)
    (round : ∀ E H, I E H → vc X cx n c E H (thenE (fun E' H' => I E' H' ∧ μ E' H' < μ E H) Q)) : loopE (fun E H Q => vc X cx n c E H Q) E H Q := by
  refine ⟨fun J hJ => ?_⟩
  have key : ∀ n E H, μ E H = n → I E H → J E H := by
    intro n
    induction n using Nat.strongRecOn with
    | _ n ih =>
      intro E H hn hI
      refine hJ E H (vc_mono hX ?_ (round E H hI))
      intro e E' H' hq
      cases e with
      | normal => exact ih _ (hn ▸ hq.2) E' H' rfl hq.1
      | jump j => exact hq
  exact key _ E H rfl h0

/-! ### What a slot holds -/

def Pins : List (Nat × Value) → Env → Prop
  | [], _ => True
  | (t, v) :: l, E => E t = v ∧ Pins l E

def pin : List (Nat × Value) → Env → Env
  | [], E => E
  | (t, v) :: l, E => upd t v (pin l E)

theorem Pins.eq : ∀ {l : List (Nat × Value)} {E : Env}, Pins l E → E = pin l E
  | [], _, _ => rfl
  | (t, v) :: l, E, h => by
    funext i
    simp only [pin, upd]
    by_cases hi : i = t
    · subst hi; simp [h.1]
    · have : (i == t) = false := by simp [hi]
      rw [this, cond_false]
      exact congrFun (Pins.eq h.2) i

end Ab
