/- What is asked at the stops of a walk. -/
import Derived.Test.YtfcpgeanbklleaaGreatDoorVc
set_option linter.unusedSectionVars false
set_option linter.unusedSimpArgs false
set_option linter.unusedVariables false
namespace Ab
open Go

section
variable {H H' : Heap} {b o n : Nat} {K : Value → Prop} {KH : Value → Heap → Prop}

theorem get_push_self {x : Blk} : (H.push x).get H.size = some x := by rw [Heap.get_push, if_pos rfl]
theorem get_push_ne {x : Blk} {i : Nat} (h : i ≠ H.size) : (H.push x).get i = H.get i := by rw [Heap.get_push, if_neg h]
theorem get_set_self {x : Blk} : (H.set b x).get b = some x := by rw [Heap.get_set, if_pos rfl]
theorem get_set_ne {x : Blk} {i : Nat} (h : i ≠ b) : (H.set b x).get i = H.get i := by rw [Heap.get_set, if_neg h]

/-! ### Blocks of a heap -/

structure At (H : Heap) (b : Nat) (x : Blk) : Prop where
  get : H.get b = some x
  lt : b < H.size

theorem At.self {x : Blk} : At (H.push x) H.size x := ⟨get_push_self, by rw [Heap.size_push]; omega⟩
theorem At.push {x y : Blk} (h : At H b x) : At (H.push y) b x := ⟨by rw [get_push_ne (by have := h.lt; omega)]; exact h.get, by rw [Heap.size_push]; have := h.lt; omega⟩
theorem At.setSelf {y : Blk} (h : b < H.size) : At (H.set b y) b y := ⟨get_set_self, h⟩
theorem At.setNe {x y : Blk} {c : Nat} (h : At H b x) (hne : b ≠ c) : At (H.set c y) b x := ⟨by rw [get_set_ne hne]; exact h.get, h.lt⟩

/-- A heap that has grown: what was there is as it was. -/
structure Ext (H H' : Heap) : Prop where
  at' : ∀ b x, At H b x → At H' b x
  size : H.size ≤ H'.size

theorem Ext.refl (H : Heap) : Ext H H := ⟨fun _ _ h => h, Nat.le_refl _⟩
theorem Ext.trans {H2 : Heap} (h : Ext H H') (h' : Ext H' H2) : Ext H H2 := ⟨fun b x e => h'.at' b x (h.at' b x e), Nat.le_trans h.size h'.size⟩
theorem Ext.push {H1 : Heap} {x : Blk} (h : Ext H H1) : Ext H (H1.push x) := ⟨fun b y e => (h.at' b y e).push, by rw [Heap.size_push]; have := h.size; omega⟩
theorem Ext.set {H1 : Heap} {x : Blk} (h : Ext H H1) (hb : H.size ≤ b) : Ext H (H1.set b x) :=
  ⟨fun c y e => (h.at' c y e).setNe (by have := e.lt; omega), by rw [Heap.size_set]; exact h.size⟩

/-- Cells in a heap, from a place on. -/
def Cells (H : Heap) (b o : Nat) (vs : List Value) : Prop := ∃ ro e D, At H b (.cells ro e D) ∧ o + vs.length ≤ D.length ∧ (D.drop o).take vs.length = vs

theorem Cells.ext {vs : List Value} (h : Cells H b o vs) (he : Ext H H') : Cells H' b o vs := by
  obtain ⟨ro, e, D, h1, h2, h3⟩ := h
  exact ⟨ro, e, D, he.at' _ _ h1, h2, h3⟩

theorem Cells.get {vs : List Value} (h : Cells H b o vs) {f : Nat} {v : Value} (hf : vs[f]? = some v) : ∃ ro e D, At H b (.cells ro e D) ∧ D[o + f]? = some v := by
  obtain ⟨ro, e, D, h1, h2, h3⟩ := h
  refine ⟨ro, e, D, h1, ?_⟩
  rw [← h3] at hf
  have hl : f < vs.length := by
    have := (List.getElem?_eq_some_iff.1 hf).1
    simp at this; omega
  rw [List.getElem?_take_of_lt hl, List.getElem?_drop] at hf
  exact hf

/-! ### Loads and stores -/

theorem loadP_get {ro : Bool} {e : Nat} {C : List Value} {v : Value} (hb : At H b (.cells ro e C)) (hv : C[o]? = some v) (k : K v) : loadP H none (.pointer (some ⟨b, o, none⟩)) K := by
  refine ⟨?_⟩
  simp only [loadA, hb.get, hv, optV]
  exact k

theorem loadP_agg {ro : Bool} {e : Nat} {C vs : List Value} (hb : At H b (.cells ro e C)) (hn : o + n ≤ C.length) (hv : (C.drop o).take n = vs) (k : K (.agg ⟨vs⟩)) : loadP H (some n) (.pointer (some ⟨b, o, none⟩)) K := by
  refine ⟨?_⟩
  simp only [loadA, hb.get, if_pos hn, hv, optV]
  exact k

theorem loadP_cells {vs : List Value} {f : Nat} {v : Value} (h : Cells H b o vs) (hv : vs[f]? = some v) (k : K v) : loadP H none (.pointer (some ⟨b, o + f, none⟩)) K := by
  obtain ⟨ro, e, D, h1, h2⟩ := h.get hv
  exact loadP_get h1 h2 k

theorem loadP_cells0 {vs : List Value} {v : Value} (h : Cells H b o vs) (hv : vs[0]? = some v) (k : K v) : loadP H none (.pointer (some ⟨b, o, none⟩)) K := loadP_cells h hv k

theorem loadP_cellsA {vs : List Value} (h : Cells H b o vs) (hn : vs.length = n) (k : K (.agg ⟨vs⟩)) : loadP H (some n) (.pointer (some ⟨b, o, none⟩)) K := by
  subst hn
  obtain ⟨ro, e, D, h1, h2, h3⟩ := h
  exact loadP_agg h1 h2 h3 k

theorem storeP_get {e size : Nat} {C : List Value} {v : Value} (hb : At H b (.cells false e C)) (hl : (cellsOf v).length = size) (ho : o + size ≤ C.length) (h1 : (cellsOf v).all Value.oneCell' = true)
    (k : KH undef (H.set b (.cells false e (over C o (cellsOf v))))) : storeP H size (.pointer (some ⟨b, o, none⟩)) v KH := by
  subst hl
  refine ⟨?_⟩
  simp only [writeOp, storeA, hb.get, if_true, if_pos (And.intro ho h1), Option.map_some, optVH]
  exact k

theorem idxP_slice {esz c : Nat} {kd : IntKind} {j : Int} (h0 : 0 ≤ j) (h1 : j < n) (k : K (.pointer (some ⟨b, o + j.toNat * esz, none⟩))) : idxP none esz (.slice (some ⟨b, o, none⟩) n c) (.int kd j) K := by
  refine ⟨?_⟩
  simp only [pureOp, if_pos (And.intro h0 h1), optV]
  exact k

theorem idxP_arr {esz : Nat} {kd : IntKind} {j : Int} (h0 : 0 ≤ j) (h1 : j < n) (k : K (.pointer (some ⟨b, o + j.toNat * esz, none⟩))) : idxP (some n) esz (.pointer (some ⟨b, o, none⟩)) (.int kd j) K := by
  refine ⟨?_⟩
  simp only [pureOp, if_pos (And.intro h0 h1), optV]
  exact k

/-! ### Slices -/

/-- A slice whose elements are told: enc: the cells of one. -/
structure SlP {α : Type} (H : Heap) (esz : Nat) (enc : α → List Value) (p : Option Addr) (n : Nat) (l : List α) : Prop where
  len : n = l.length
  size : ∀ x ∈ l, (enc x).length = esz
  at' : ∀ i x, l[i]? = some x → ∃ b o, p = some ⟨b, o, none⟩ ∧ Cells H b (o + i * esz) (enc x)

section
variable {α : Type} {esz c : Nat} {enc : α → List Value} {p : Option Addr} {l : List α}

theorem SlP.ext (h : SlP H esz enc p n l) (he : Ext H H') : SlP H' esz enc p n l :=
  ⟨h.len, h.size, fun i x hx => let ⟨b, o, h1, h2⟩ := h.at' i x hx; ⟨b, o, h1, h2.ext he⟩⟩

theorem idxP_sl {i : Nat} {x : α} (h : SlP H esz enc p n l) (hx : l[i]? = some x) (k : ∀ b o, Cells H b (o + i * esz) (enc x) → K (.pointer (some ⟨b, o + i * esz, none⟩))) : idxP none esz (.slice p n c) (.int .i64 (i : Int)) K := by
  obtain ⟨b, o, rfl, h2⟩ := h.at' i x hx
  have hi : i < l.length := (List.getElem?_eq_some_iff.1 hx).1
  have := h.len
  exact idxP_slice (by omega) (by omega) (k b o h2)
end

theorem callP_fn {X : CallPred} {f : FuncId} {first captured : List Value} {args : List Value} (h : X (.fn f) (first ++ args ++ captured) H KH) : callP X (.func (.func f) ⟨first⟩ ⟨captured⟩) args H KH := by
  exact ⟨h⟩

end

/-! ### Loops -/

/-- A loop whose round is told by a state: which slots hold what, what holds of the heap, and a measure. -/
theorem loop_pins {X : CallPred} (hX : CallMono X X) {cx : Ctx} {n : Nat} {c : ACode} {Q : EPost} {σ : Type} (L : σ → List (Nat × Value)) (I : σ → Heap → Prop) (μ : σ → Nat) (s0 : σ) {E : Env} {H : Heap} (h0 : Pins (L s0) E) (h1 : I s0 H)
    (round : ∀ s E H, I s H → vc X cx n c (pin (L s) E) H (thenE (fun E' H' => ∃ s', Pins (L s') E' ∧ I s' H' ∧ μ s' < μ s) Q)) : loopV X cx n c (vc X cx n c) E H Q := by
  refine ⟨⟨fun J hJ => ?_⟩⟩
  have key : ∀ m s E H, μ s = m → Pins (L s) E → I s H → J E H := by
    intro m
    induction m using Nat.strongRecOn with
    | _ m ih =>
      intro s E H hm hp hI
      have hr := round s E H hI
      rw [← hp.eq] at hr
      refine hJ E H (vc_mono hX ?_ hr)
      intro e E' H' hq
      cases e with
      | normal =>
        obtain ⟨s', k1, k2, k3⟩ := hq
        exact ih _ (hm ▸ k3) s' E' H' rfl k1 k2
      | jump j => exact hq
  exact key _ s0 E H rfl h0 h1

end Ab
namespace Ab
open Go

section
variable {H H' H0 : Heap} {b o n m esz bytes : Nat} {K : Value → Prop} {KH : Value → Heap → Prop} {C xs : List Value} {p px : Option Addr} {c cx : Nat}

/-- What a slice reads as: n elements of a size. -/
def Src (H : Heap) (esz : Nat) (p : Option Addr) (n : Nat) (C : List Value) : Prop := C.length = n * esz ∧ ((n = 0 ∧ (p = none ∨ ∃ b o, p = some ⟨b, o, none⟩)) ∨ ∃ b o, p = some ⟨b, o, none⟩ ∧ Cells H b o C)

theorem Src.ext (h : Src H esz p n C) (he : Ext H H') : Src H' esz p n C := by
  refine ⟨h.1, ?_⟩
  rcases h.2 with h2 | ⟨b, o, h2, h3⟩
  · exact .inl h2
  · exact .inr ⟨b, o, h2, h3.ext he⟩

theorem Src.nil : Src H esz none 0 [] := ⟨by simp, .inl ⟨rfl, .inl rfl⟩⟩

theorem Src.sliceCells (h : Src H esz p n C) : Ab.sliceCells H esz n (.slice p n c) = some C := by
  obtain ⟨h1, h2⟩ := h
  rcases h2 with ⟨rfl, h2⟩ | ⟨b, o, rfl, ro, e, D, h3, h4, h5⟩
  · have hC : C = [] := List.length_eq_zero_iff.1 (by simpa using h1)
    subst hC
    rcases h2 with rfl | ⟨b, o, rfl⟩
    · simp [Ab.sliceCells]
    · simp [Ab.sliceCells]
  · by_cases h0 : n * esz = 0
    · have hC : C = [] := List.length_eq_zero_iff.1 (by omega)
      subst hC
      simp [Ab.sliceCells, h0]
    · simp only [Ab.sliceCells, if_neg h0, h3.get]
      rw [h1] at h4 h5
      rw [if_pos h4, h5]

/-- A slice of the call's own: the block may be moved by an append. -/
inductive Own (H0 H : Heap) (esz : Nat) : Option Addr → Nat → Nat → List Value → Prop
  | src {p : Option Addr} {n : Nat} {C : List Value} : Src H esz p n C → Own H0 H esz p n n C
  | mk {b n : Nat} {C : List Value} : H0.size ≤ b → At H b (.cells false esz C) → C.length = n * esz → Own H0 H esz (some ⟨b, 0, none⟩) n openCap C

theorem Own.srcOf (h : Own H0 H esz p n c C) : Src H esz p n C := by
  cases h with
  | src h => exact h
  | mk _ h2 h3 => exact ⟨h3, .inr ⟨_, 0, rfl, _, _, _, h2, by omega, by simp⟩⟩

theorem Own.mono {H1 : Heap} (h : Own H0 H esz p n c C) (he : Ext H H1) : Own H0 H1 esz p n c C := by
  cases h with
  | src h => exact .src (h.ext he)
  | mk h1 h2 h3 => exact .mk h1 (he.at' _ _ h2) h3

theorem Own.len (h : Own H0 H esz p n c C) : C.length = n * esz := h.srcOf.1

/-- 'append' onto a slice of the call's own, or onto one that is full. -/
theorem appendP_own (hE : Ext H0 H) (ho : Own H0 H esz p n c C) (hx : Src H esz px m xs) (h1 : xs.all Value.oneCell' = true) (hesz : esz ≠ 0) (hm : m ≠ 0) (hb : (n + m) * bytes ≤ 70368744177664) (hb2 : n + m ≤ 70368744177664)
    (k : ∀ b H', Ext H0 H' → H0.size ≤ b → At H' b (.cells false esz (C ++ xs)) → (∀ d x, At H d x → (∀ a, p = some a → a.block ≠ d) ∨ c = n → At H' d x) → KH (.slice (some ⟨b, 0, none⟩) (n + m) openCap) H') :
    appendP H esz bytes (.slice p n c) (.slice px m cx) KH := by
  refine ⟨?_⟩
  have hlen := ho.len
  have hsrc := ho.srcOf
  simp only [appendA, lenV, hx.sliceCells, if_neg hm]
  rw [if_neg (by simp only [Classical.not_not]; exact ⟨hesz, h1, hb, hb2⟩)]
  cases ho with
  | src hs =>
    have hn : n ≠ openCap := by unfold openCap; omega
    rw [if_neg hn, if_neg (by omega), hsrc.sliceCells]
    exact k H.size _ hE.push hE.size At.self fun d x hd _ => hd.push
  | mk hb0 hat hl =>
    simp only [if_true, hat.get]
    rw [if_neg (by simp only [Classical.not_not, true_and]; omega), if_neg (by
      rw [hl, Nat.zero_add]
      have : n * esz < (n + m) * esz := Nat.mul_lt_mul_of_pos_right (by omega) (by omega)
      omega)]
    have hC : (C.drop 0).take (n * esz) = C := by rw [List.drop_zero, ← hl, List.take_length]
    rw [hC]
    refine k H.size _ (hE.set hb0).push hE.size At.self fun d x hd hne => ?_
    rcases hne with hne | hne
    · exact (hd.setNe (fun e => hne _ rfl e.symm)).push
    · have : openCap = n := hne
      unfold openCap at this; omega

/-- 'append' of nothing. -/
theorem appendP_none (h : xs.length = 0) (hx : Src H esz px 0 xs) (k : KH (.slice p n c) H) : appendP H esz bytes (.slice p n c) (.slice px 0 cx) KH := by
  refine ⟨?_⟩
  simp only [appendA, lenV, hx.sliceCells, if_true]
  exact k

theorem makeP_ok {l : Int} {z : List Value} (h0 : 0 ≤ l) (h1 : l * bytes ≤ 281474976710656) (h2 : l ≤ 281474976710656) (k : KH (.slice (some ⟨H.size, 0, none⟩) l.toNat l.toNat) (H.push (.cells false esz (repl l.toNat z)))) : makeP H esz bytes z (.int .i64 l) (.int .i64 l) KH := by
  refine ⟨?_⟩
  simp only [newOp]
  rw [if_pos ⟨h0, Int.le_refl _, h1, h2⟩]
  exact k

theorem mapUpdP_ok {kk : KK} {r : Nat} {k v : Value} {es es' : List MapEntry} {clock clock' : Nat} (hat : At H r (.map es clock)) (hk : isKey kk k = true)
    (hn : (match findEnt kk k es 0 with
      | some (some (i, _)) => some (es.modify i fun e => { e with key := k, val := v }, clock)
      | some none => some (es ++ [{ key := k, val := v, born := clock }], clock + 1)
      | none => none) = some (es', clock')) (kk' : KH undef (H.set r (.map es' clock'))) : mapUpdP H kk (.map (some r)) k v KH := by
  refine ⟨?_⟩
  simp only [mapUpdateA, hk, Bool.true_eq_false, if_false, hat.get]
  split at hn
  · simp only [Option.some.injEq, Prod.mk.injEq] at hn
    obtain ⟨rfl, rfl⟩ := hn
    rename_i h
    simp only [h, Option.map_some, optVH]
    exact kk'
  · simp only [Option.some.injEq, Prod.mk.injEq] at hn
    obtain ⟨rfl, rfl⟩ := hn
    rename_i h
    simp only [h, Option.map_some, optVH]
    exact kk'
  · cases hn

theorem lookupP_some {kk : KK} {zero : Value} {r i : Nat} {k v : Value} {es : List MapEntry} {clock : Nat} (hat : At H r (.map es clock)) (hk : isKey kk k = true) (hf : findEnt kk k es 0 = some (some (i, v))) (kv : K v) : lookupP H kk zero false (.map (some r)) k K := by
  refine ⟨?_⟩
  simp only [readOp, hk, Bool.true_eq_false, if_false, mapOf, hat.get, hf, optV]
  exact kv

theorem lookupP_none {kk : KK} {zero : Value} {r : Nat} {k : Value} {es : List MapEntry} {clock : Nat} (hat : At H r (.map es clock)) (hk : isKey kk k = true) (hf : findEnt kk k es 0 = some none) (kv : K zero) : lookupP H kk zero false (.map (some r)) k K := by
  refine ⟨?_⟩
  simp only [readOp, hk, Bool.true_eq_false, if_false, mapOf, hat.get, hf, optV]
  exact kv

/-- A slice, of elements that are told, as a source. -/
theorem SlP.src {α : Type} {enc : α → List Value} {l : List α} (h : SlP H esz enc p n l) (hp : n = 0 → p = none ∨ ∃ b o, p = some ⟨b, o, none⟩) (hc : 0 < n → ∃ b o, p = some ⟨b, o, none⟩ ∧ Cells H b o (l.flatMap enc)) : Src H esz p n (l.flatMap enc) := by
  have hlen : (l.flatMap enc).length = n * esz := by
    rw [h.len]
    have : ∀ l : List α, (∀ x ∈ l, (enc x).length = esz) → (l.flatMap enc).length = l.length * esz := by
      intro l
      induction l with
      | nil => intro _; simp
      | cons x l ih =>
        intro hx
        rw [List.flatMap_cons, List.length_append, hx x (by simp), ih (fun y hy => hx y (by simp [hy])), List.length_cons, Nat.add_mul]
        omega
    exact this l h.size
  refine ⟨hlen, ?_⟩
  by_cases h0 : n = 0
  · exact .inl ⟨h0, hp h0⟩
  · exact .inr (hc (by omega))

/-- A source of told elements is a slice of them. -/
theorem Src.slP {α : Type} {enc : α → List Value} {l : List α} (h : Src H esz p n (l.flatMap enc)) (hn : n = l.length) (hs : ∀ x ∈ l, (enc x).length = esz) : SlP H esz enc p n l := by
  refine ⟨hn, hs, fun i x hx => ?_⟩
  have hi : i < l.length := (List.getElem?_eq_some_iff.1 hx).1
  rcases h.2 with ⟨h0, _⟩ | ⟨b, o, hp, hc⟩
  · omega
  refine ⟨b, o, hp, ?_⟩
  obtain ⟨ro, e, D, h1, h2, h3⟩ := hc
  refine ⟨ro, e, D, h1, ?_⟩
  have key : ∀ (l : List α) (i : Nat) (x : α), (∀ x ∈ l, (enc x).length = esz) → l[i]? = some x → i * esz + esz ≤ (l.flatMap enc).length ∧ ((l.flatMap enc).drop (i * esz)).take esz = enc x := by
    intro l
    induction l with
    | nil => intro i x _ hx; simp at hx
    | cons y l ih =>
      intro i x hs hx
      have hy := hs y (by simp)
      rw [List.flatMap_cons]
      cases i with
      | zero =>
        simp at hx; subst hx
        refine ⟨by simp [hy], ?_⟩
        simp only [Nat.zero_mul, List.drop_zero]
        rw [List.take_append_of_le_length (by omega), ← hy, List.take_length]
      | succ i =>
        obtain ⟨k1, k2⟩ := ih i x (fun z hz => hs z (by simp [hz])) (by simpa using hx)
        refine ⟨by rw [List.length_append, hy, Nat.add_mul]; omega, ?_⟩
        rw [show (i + 1) * esz = (enc y).length + i * esz by rw [hy, Nat.add_mul]; omega, List.drop_length_add_append]
        exact k2
  obtain ⟨k1, k2⟩ := key l i x hs hx
  have hex := hs x (List.mem_of_getElem? hx)
  rw [hex]
  refine ⟨by omega, ?_⟩
  rw [← k2]
  conv => rhs; rw [← h3]
  rw [List.drop_take, List.take_take, List.drop_drop, Nat.min_eq_left (by omega)]


end
end Ab
namespace Ab
open Go

theorem over_append_right (a : List Value) : ∀ (vs b : List Value) (i : Nat), over (a ++ b) (a.length + i) vs = a ++ over b i vs
  | [], _, _ => rfl
  | v :: vs, b, i => by
    simp only [over]
    rw [List.set_append_right _ _ (by omega), show a.length + i - a.length = i by omega, Nat.add_assoc, over_append_right a vs]

theorem over_append_left (b : List Value) : ∀ (vs a : List Value) (f : Nat), f + vs.length ≤ a.length → over (a ++ b) f vs = over a f vs ++ b
  | [], _, _, _ => rfl
  | v :: vs, a, f, h => by
    simp only [List.length_cons] at h
    simp only [over]
    rw [List.set_append_left _ _ (by omega), over_append_left b vs _ _ (by simp; omega)]

theorem over_flat {α : Type} {enc : α → List Value} {esz f : Nat} {vs : List Value} {x y : α} : ∀ (l : List α) (k : Nat), (∀ x ∈ l, (enc x).length = esz) → l[k]? = some x → f + vs.length ≤ esz → over (enc x) f vs = enc y →
    over (l.flatMap enc) (k * esz + f) vs = (l.set k y).flatMap enc
  | [], _, _, h, _, _ => by simp at h
  | a :: l, 0, hs, h, hf, ho => by
    simp at h; subst h
    simp only [List.flatMap_cons, List.set_cons_zero, Nat.zero_mul, Nat.zero_add]
    rw [over_append_left _ _ _ _ (by rw [hs a (by simp)]; exact hf), ho]
  | a :: l, k + 1, hs, h, hf, ho => by
    simp only [List.flatMap_cons, List.set_cons_succ]
    rw [show (k + 1) * esz + f = (enc a).length + (k * esz + f) by rw [hs a (by simp), Nat.add_mul]; omega, over_append_right]
    rw [over_flat l k (fun z hz => hs z (by simp [hz])) (by simpa using h) hf ho]

theorem flat_length {α : Type} {enc : α → List Value} {esz : Nat} : ∀ (l : List α), (∀ x ∈ l, (enc x).length = esz) → (l.flatMap enc).length = l.length * esz
  | [], _ => by simp
  | x :: l, h => by
    rw [List.flatMap_cons, List.length_append, h x (by simp), flat_length l (fun y hy => h y (by simp [hy])), List.length_cons, Nat.add_mul]
    omega

/-- A block of the call's own whose cells are told by a list. -/
theorem At.src {α : Type} {H : Heap} {b esz : Nat} {ro : Bool} {enc : α → List Value} {l : List α} (h : At H b (.cells ro esz (l.flatMap enc))) (hs : ∀ x ∈ l, (enc x).length = esz) : Src H esz (some ⟨b, 0, none⟩) l.length (l.flatMap enc) :=
  ⟨flat_length l hs, .inr ⟨b, 0, rfl, _, _, _, h, by omega, by rw [List.drop_zero, List.take_length]⟩⟩

theorem At.slP {α : Type} {H : Heap} {b esz : Nat} {ro : Bool} {enc : α → List Value} {l : List α} (h : At H b (.cells ro esz (l.flatMap enc))) (hs : ∀ x ∈ l, (enc x).length = esz) : SlP H esz enc (some ⟨b, 0, none⟩) l.length l := (h.src hs).slP rfl hs

theorem At.cells {α : Type} {H : Heap} {b esz : Nat} {ro : Bool} {enc : α → List Value} {l : List α} (h : At H b (.cells ro esz (l.flatMap enc))) (hs : ∀ x ∈ l, (enc x).length = esz) {k : Nat} {x : α} (hx : l[k]? = some x) : Cells H b (0 + k * esz) (enc x) := by
  obtain ⟨b', o', h1, h2⟩ := (h.slP hs).at' k x hx
  simp only [Option.some.injEq, Addr.mk.injEq, and_true] at h1
  obtain ⟨rfl, rfl⟩ := h1
  exact h2

/-- A store into an element. -/
theorem storeP_elem {α : Type} {H : Heap} {b esz size : Nat} {enc : α → List Value} {l : List α} {k f o : Nat} {x y : α} {v : Value} {KH : Value → Heap → Prop} (h : At H b (.cells false esz (l.flatMap enc))) (hs : ∀ x ∈ l, (enc x).length = esz) (hx : l[k]? = some x)
    (ho : o = k * esz + f) (hl : (cellsOf v).length = size) (hf : f + size ≤ esz) (h1 : (cellsOf v).all Value.oneCell' = true) (hy : over (enc x) f (cellsOf v) = enc y)
    (kk : KH undef (H.set b (.cells false esz ((l.set k y).flatMap enc)))) : storeP H size (.pointer (some ⟨b, o, none⟩)) v KH := by
  subst ho
  have hk : k < l.length := (List.getElem?_eq_some_iff.1 hx).1
  refine storeP_get h hl ?_ h1 ?_
  · rw [flat_length l hs]
    have : (k + 1) * esz ≤ l.length * esz := Nat.mul_le_mul_right _ hk
    rw [Nat.add_mul] at this
    omega
  · rw [over_flat l k hs hx (by rw [hl]; exact hf) hy]
    exact kk

theorem set_sizes {α : Type} {enc : α → List Value} {esz : Nat} {l : List α} {k : Nat} {y : α} (hs : ∀ x ∈ l, (enc x).length = esz) (hy : (enc y).length = esz) : ∀ x ∈ l.set k y, (enc x).length = esz := by
  intro x hx
  rcases List.mem_or_eq_of_mem_set hx with h | h
  · exact hs x h
  · rw [h]; exact hy

theorem repl_flat {α : Type} {enc : α → List Value} {z : List Value} {x : α} (h : enc x = z) (n : Nat) : repl n z = (List.replicate n x).flatMap enc := by
  subst h
  simp [repl, List.flatMap]

end Ab
namespace Ab
open Go

theorem Src.ofAt {H : Heap} {b m esz : Nat} {ro : Bool} {e : Nat} {xs : List Value} (h : At H b (.cells ro e xs)) (hl : xs.length = m * esz) : Src H esz (some ⟨b, 0, none⟩) m xs :=
  ⟨hl, .inr ⟨b, 0, rfl, _, _, _, h, by omega, by rw [List.drop_zero, List.take_length]⟩⟩

theorem take_succ_flat {α : Type} {enc : α → List Value} {l : List α} {i : Nat} {x : α} (h : l[i]? = some x) : (l.take (i + 1)).flatMap enc = (l.take i).flatMap enc ++ enc x := by
  rw [List.take_add_one, h]
  simp

theorem At.ne {H : Heap} {b c : Nat} {x y : Blk} (h : At H b x) (k : At H c y) (hne : x ≠ y) : b ≠ c := by
  rintro rfl
  have := h.get
  rw [k.get] at this
  cases this
  exact hne rfl

theorem keep_at {H H' : Heap} {b : Nat} {x : Blk} (h : At H b x) (k : At H' b x) : H'.get b = H.get b := by rw [h.get, k.get]

end Ab
namespace Ab
open Go

theorem sliceP_own {H0 H : Heap} {esz n c : Nat} {p : Option Addr} {C : List Value} {K : Value → Prop} (h : Own H0 H esz p n c C) (hn : n < 1000000) (k : ∀ p', Src H esz p' n C → K (.slice p' n n)) :
    sliceP H esz (.slice p n c) none (some (.int .i64 (n : Int))) (some (.int .i64 (n : Int))) K := by
  have hs := h.srcOf
  refine ⟨?_⟩
  have hb : ∀ cap, n ≤ cap → boundsA n cap none (some (.int .i64 (n : Int))) (some (.int .i64 (n : Int))) = some (0, n, n) := by
    intro cap hcap
    simp only [boundsA, Option.elim, idx]
    rw [if_pos (by refine ⟨by omega, by omega, by omega, by omega, by simp⟩)]
    simp
  have hoff : ∀ o, (if (n : Nat) = 0 then o else o + 0 * esz) = o := by intro o; split <;> simp
  cases h with
  | src h =>
    have hc : n ≠ openCap := by unfold openCap; omega
    rcases h.2 with ⟨h0, h1⟩ | ⟨b, o, h1, h2⟩
    · subst h0
      rcases h1 with rfl | ⟨b, o, rfl⟩
      · simp only [sliceV, hb 0 (by omega), optV]
        exact k _ hs
      · simp only [sliceV, if_neg hc, hb 0 (by omega), optV, if_true]
        exact k _ hs
    · subst h1
      simp only [sliceV, if_neg hc, hb n (by omega), optV, Nat.sub_zero, hoff]
      exact k _ hs
  | mk h1 h2 h3 =>
    simp only [sliceV, if_true, h2.get, hb n (by omega), optV, Nat.sub_zero, Option.isSome_some, Bool.true_and, decide_eq_true_eq, hoff]
    exact k _ hs

end Ab

namespace Ab
open Go

theorem At.inj {H : Heap} {b : Nat} {x y : Blk} (h : At H b x) (k : At H b y) : x = y := by
  have := h.get
  rw [k.get] at this
  cases this; rfl

/-- Told elements lie in a row. -/
theorem SlP.toSrc {α : Type} {H : Heap} {esz n : Nat} {enc : α → List Value} {p : Option Addr} {l : List α} (h : SlP H esz enc p n l) (hp : p = none ∨ ∃ b o, p = some ⟨b, o, none⟩) : Src H esz p n (l.flatMap enc) := by
  refine h.src (fun _ => hp) fun h0 => ?_
  have hlen := h.len
  obtain ⟨x0, hx0⟩ : ∃ x, l[0]? = some x := ⟨l[0], by simp⟩
  obtain ⟨b, o, rfl, ro, e, D, k1, k2, k3⟩ := h.at' 0 x0 hx0
  refine ⟨b, o, rfl, ro, e, D, k1, ?_⟩
  have all : ∀ (i : Nat) x, l[i]? = some x → o + i * esz + esz ≤ D.length ∧ (D.drop (o + i * esz)).take esz = enc x := by
    intro i x hx
    obtain ⟨b', o', hb, ro', e', D', m1, m2, m3⟩ := h.at' i x hx
    simp only [Option.some.injEq, Addr.mk.injEq, and_true] at hb
    obtain ⟨rfl, rfl⟩ := hb
    have := k1.inj m1
    simp only [Blk.cells.injEq] at this
    obtain ⟨_, _, rfl⟩ := this
    rw [h.size x (List.mem_of_getElem? hx)] at m2 m3
    exact ⟨m2, m3⟩
  have key : ∀ (l : List α) (o : Nat), (∀ x ∈ l, (enc x).length = esz) → (∀ (i : Nat) x, l[i]? = some x → o + i * esz + esz ≤ D.length ∧ (D.drop (o + i * esz)).take esz = enc x) → (l = [] ∨ o + (l.flatMap enc).length ≤ D.length) ∧ (D.drop o).take (l.flatMap enc).length = l.flatMap enc := by
    intro l
    induction l with
    | nil => intro o _ _; exact ⟨.inl rfl, by simp⟩
    | cons x l ih =>
      intro o hs ha
      have hx := ha 0 x rfl
      rw [Nat.zero_mul, Nat.add_zero] at hx
      have hsx := hs x (by simp)
      obtain ⟨i1, i2⟩ := ih (o + esz) (fun y hy => hs y (by simp [hy])) (fun i y hy => by
        have := ha (i + 1) y (by simpa using hy)
        rw [Nat.add_mul, Nat.one_mul] at this
        rw [show o + esz + i * esz = o + (i * esz + esz) by omega]
        exact this)
      rw [List.flatMap_cons, List.length_append, hsx]
      refine ⟨.inr ?_, ?_⟩
      · rcases i1 with rfl | i1
        · simp; omega
        · omega
      · rw [List.take_add, hx.2, List.drop_drop, i2]
  obtain ⟨r1, r2⟩ := key l o h.size all
  refine ⟨?_, r2⟩
  rcases r1 with rfl | r1
  · simp at hx0
  · exact r1

end Ab
namespace Ab
open Go

theorem appendP_copy {H : Heap} {esz bytes m cx b0 : Nat} {px : Option Addr} {xs : List Value} {KH : Value → Heap → Prop} (hx : Src H esz px m xs) (h1 : xs.all Value.oneCell' = true) (hesz : esz ≠ 0) (hb : m * bytes ≤ 70368744177664) (hb2 : m ≤ 70368744177664)
    (k : ∀ q c' H', Ext H H' → ((m = 0 ∧ q = some ⟨b0, 0, none⟩) ∨ ∃ b, q = some ⟨b, 0, none⟩ ∧ H.size ≤ b ∧ At H' b (.cells false esz xs)) → KH (.slice q m c') H') : appendP H esz bytes (.slice (some ⟨b0, 0, none⟩) 0 0) (.slice px m cx) KH := by
  by_cases hm : m = 0
  · subst hm
    have hl := hx.1
    exact appendP_none (by simpa using hl) hx (k _ _ _ (Ext.refl _) (.inl ⟨rfl, rfl⟩))
  · have hs : Src H esz (some ⟨b0, 0, none⟩) 0 [] := ⟨by simp, .inl ⟨rfl, .inr ⟨b0, 0, rfl⟩⟩⟩
    refine appendP_own (H0 := H) (n := 0) (C := []) (xs := xs) (Ext.refl _) (.src hs) hx h1 hesz hm (by rw [Nat.zero_add]; exact hb) (by omega) fun b H' e hb' ha _ => ?_
    rw [Nat.zero_add]
    exact k _ _ _ e (.inr ⟨b, rfl, hb', ha⟩)

theorem ones_flat {α : Type} {enc : α → List Value} (h : ∀ x, (enc x).all Value.oneCell' = true) (l : List α) : (l.flatMap enc).all Value.oneCell' = true := by
  induction l with
  | nil => rfl
  | cons x l ih => rw [List.flatMap_cons, List.all_append, h x, ih]; rfl

end Ab
namespace Ab
open Go

theorem loadP_cellsF {H : Heap} {b o o' f : Nat} {K : Value → Prop} {vs : List Value} {v : Value} (h : Cells H b o vs) (ho : o' = o + f) (hv : vs[f]? = some v) (k : K v) : loadP H none (.pointer (some ⟨b, o', none⟩)) K := by
  subst ho
  exact loadP_cells h hv k

end Ab
namespace Ab
open Go

theorem loadP_agg' {H : Heap} {b o n : Nat} {K : Value → Prop} {ro : Bool} {e : Nat} {C vs : List Value} (hb : At H b (.cells ro e C)) (hv : (Nat.ble (o + n) C.length, (C.drop o).take n) = (true, vs)) (k : K (.agg ⟨vs⟩)) : loadP H (some n) (.pointer (some ⟨b, o, none⟩)) K :=
  loadP_agg hb (Nat.le_of_ble_eq_true (Prod.mk.inj hv).1) (Prod.mk.inj hv).2 k

theorem loadP_aggR {H : Heap} {b o n : Nat} {K : Value → Prop} {ro : Bool} {e : Nat} {C : List Value} (hb : At H b (.cells ro e C)) (hn : Nat.ble (o + n) C.length = true) (k : K (.agg ⟨(C.drop o).take n⟩)) : loadP H (some n) (.pointer (some ⟨b, o, none⟩)) K :=
  loadP_agg hb (Nat.le_of_ble_eq_true hn) rfl k

theorem storeP_getR {H : Heap} {b o e size : Nat} {KH : Value → Heap → Prop} {C : List Value} {v : Value} (hb : At H b (.cells false e C)) (h : (Nat.beq (cellsOf v).length size && Nat.ble (o + size) C.length && (cellsOf v).all Value.oneCell') = true)
    (k : KH undef (H.set b (.cells false e (over C o (cellsOf v))))) : storeP H size (.pointer (some ⟨b, o, none⟩)) v KH := by
  simp only [Bool.and_eq_true] at h
  exact storeP_get hb (Nat.eq_of_beq_eq_true h.1.1) (Nat.le_of_ble_eq_true h.1.2) h.2 k

end Ab
namespace Ab
open Go
theorem exT {H H' : Heap} (h : Ext H H' := by (repeat' (first | assumption | exact Ext.refl _ | apply Ext.push | (refine Ext.set ?_ (by first | assumption | exact Nat.le_refl _ | exact Ext.size (by assumption) | omega | (simp only [Heap.size_push, Heap.size_set] at *; omega)))))) : Ext H H' := h
theorem atT {H : Heap} {b : Nat} {x : Blk} (h : At H b x := by (repeat' (first | assumption | exact At.self | (refine At.setSelf (by (first | omega | (simp only [Heap.size_push, Heap.size_set]; omega)))) | apply At.push | (refine At.setNe ?_ (by (first | omega | (simp only [Heap.size_push, Heap.size_set]; omega)))) | (refine Ext.at' (by assumption) _ _ ?_)))) : At H b x := h
theorem ceT {H : Heap} {b o : Nat} {vs : List Value} (h : Cells H b o vs := by (first | assumption | (refine Cells.ext (by assumption) (by (repeat' (first | assumption | exact Ext.refl _ | apply Ext.push | (refine Ext.set ?_ (by first | assumption | exact Nat.le_refl _ | exact Ext.size (by assumption) | omega | (simp only [Heap.size_push, Heap.size_set] at *; omega))))))))) : Cells H b o vs := h
theorem fN {r : Int} (f : inI r := by unfold inI; first | omega | (dsimp only at *; omega)) : inI r := f
theorem ceC {H : Heap} {b o : Nat} {vs : List Value} (h : Cells H b o vs := by (first | assumption | ((first | refine Cells.ext (by assumption) ?_ | refine SlP.ext (by assumption) ?_); (focus ((repeat' (first | assumption | exact Ext.refl _ | apply Ext.push | (refine Ext.set ?_ (by first | assumption | exact Nat.le_refl _ | exact Ext.size (by assumption) | omega | (simp only [Heap.size_push, Heap.size_set] at *; omega))))); done))))) : Cells H b o vs := h
theorem slC {α : Type} {H : Heap} {esz n : Nat} {enc : α → List Value} {p : Option Addr} {l : List α} (h : SlP H esz enc p n l := by (first | assumption | ((first | refine Cells.ext (by assumption) ?_ | refine SlP.ext (by assumption) ?_); (focus ((repeat' (first | assumption | exact Ext.refl _ | apply Ext.push | (refine Ext.set ?_ (by first | assumption | exact Nat.le_refl _ | exact Ext.size (by assumption) | omega | (simp only [Heap.size_push, Heap.size_set] at *; omega))))); done))))) : SlP H esz enc p n l := h
end Ab
