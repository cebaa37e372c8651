/- The arguments of TopCalled, told out of a reading. -/
import Derived.Test.YtfcpgeanbklleaaGreatDoorZA
import Derived.Test.YtfcpgeanbklleaaGreatDoorFM
import Derived.Test.YtfcpgeanbklleaaGreatDoorV11
set_option linter.unusedSectionVars false
set_option linter.unusedSimpArgs false
set_option linter.unusedVariables false
namespace LV
open Go Ab Go.Proofs Go.Proofs.YtfcpgeanbklleaaGreatDoor Go.ChangeShapes Go.WideShapes Go.RowKit
set_option maxRecDepth 100000

theorem vs_ints {j : Inj} : ∀ l : List Int, VsRel j (l.map (Value.int .i64)) (l.map (Value.int .i64))
  | [] => .nil
  | k :: l => .cons (.int _ _) (vs_ints l)

theorem c25' : Tryz.prog.cellsOf 25 = 1 := by kernel_rfl
theorem c22' : Tryz.prog.cellsOf 22 = 1 := by kernel_rfl
theorem c24' : Tryz.prog.cellsOf 24 = 3 := by kernel_rfl
theorem c27' : Tryz.prog.cellsOf 27 = 3 := by kernel_rfl
theorem c53' : Tryz.prog.cellsOf 53 = 5 := by kernel_rfl
theorem c58' : Tryz.prog.cellsOf 58 = 7 := by kernel_rfl
theorem c60' : Tryz.prog.cellsOf 60 = 5 := by kernel_rfl
theorem c64' : Tryz.prog.cellsOf 64 = 9 := by kernel_rfl
theorem c80' : Tryz.prog.cellsOf 80 = 22 := by kernel_rfl

section
variable {K : Type} {enc0 : TypeId × Value → K} {W : World} {base : Nat} {spare : Nat → Bool} {held : Bool}

/-- A struct of numbers alone. -/
theorem ints_of {t : TypeId} {fs : Array Field} {n : Nat} {cs : List Value} {y : DataW K × List MemPlace} (ht : Tryz.prog.underlying t = some (.struct fs)) (h : DataW.trod enc0 Tryz.prog W base spare held n t cs = some y) (hc : Tryz.prog.cellsOf t = fs.size)
    (hf : ∀ (i : Nat) (f : Field), fs[i]? = some f → f.type = 3 ∧ f.offset = i) : ∃ l : List Int, cs = l.map (Value.int .i64) ∧ l.length = fs.size := by
  obtain ⟨xs, m, _, rfl, hl, hlen, hx⟩ := DataW.trod_struct ht h
  rw [hc] at hl
  refine ⟨cs.map intOf, ?_, by rw [List.length_map, hl]⟩
  rw [List.map_map]
  apply List.ext_getElem?
  intro i
  rw [List.getElem?_map]
  by_cases hi : i < cs.length
  · obtain ⟨f, hfi⟩ : ∃ f, fs[i]? = some f := ⟨fs[i]'(by omega), by simp⟩
    obtain ⟨f1, f2⟩ := hf i f hfi
    have h0 := hx i f hfi
    obtain ⟨yi, hyi⟩ : ∃ yi, xs[i]? = some yi := ⟨xs[i]'(by omega), by simp⟩
    rw [hyi, f1, f2] at h0
    obtain ⟨k, e, _⟩ := int3 h0
    rw [c3'] at e
    have hci : cs[i]? = some (.int .i64 k) := by
      have : ((cs.drop i).take 1)[0]? = some (.int .i64 k) := by rw [e]; rfl
      rw [List.getElem?_take_of_lt (by decide), List.getElem?_drop] at this
      simpa using this
    rw [hci]; rfl
  · rw [List.getElem?_eq_none (by omega)]; rfl

theorem dec_chart (hsp : ∀ b, spare b = true) (bs : List Blk) (ss : List Spot) (n : Nat) (cs : List Value) (y : DataW K × List MemPlace) (hd : Dec Tryz.prog W bs ss) (h : DataW.trod enc0 Tryz.prog W base spare held n 53 cs = some y) :
    ∃ bs' ss' c, Dec Tryz.prog W (bs ++ bs') (ss ++ ss') ∧ VsRel (injOf (ss ++ ss')) (encC c) cs ∧ ChtAt (heapOf (bs ++ bs')) c := by
  obtain ⟨xs, m, _, rfl, hl, hlen, hx⟩ := DataW.trod_struct Tryz.underlying53 h
  rw [c53'] at hl
  match xs, hlen, hx with
  | [y0, y1, y2, y3, y4], _, hx =>
    have h0 : DataW.trod enc0 Tryz.prog W base spare held m 3 ((cs.drop 0).take (Tryz.prog.cellsOf 3)) = some y0 := hx 0 _ rfl
    have h1 : DataW.trod enc0 Tryz.prog W base spare held m 3 ((cs.drop 1).take (Tryz.prog.cellsOf 3)) = some y1 := hx 1 _ rfl
    have h2 : DataW.trod enc0 Tryz.prog W base spare held m 25 ((cs.drop 2).take (Tryz.prog.cellsOf 25)) = some y2 := hx 2 _ rfl
    have h3 : DataW.trod enc0 Tryz.prog W base spare held m 43 ((cs.drop 3).take (Tryz.prog.cellsOf 43)) = some y3 := hx 3 _ rfl
    have h4 : DataW.trod enc0 Tryz.prog W base spare held m 25 ((cs.drop 4).take (Tryz.prog.cellsOf 25)) = some y4 := hx 4 _ rfl
    obtain ⟨k0, e0, _⟩ := int3 h0
    obtain ⟨k1, e1, _⟩ := int3 h1
    obtain ⟨b1, s1, p1, n1, cp1, l1, d1, v1, q1, _, _⟩ := dec_slice c3' (by decide) (fun _ => rfl) hsp (fun _ _ => True) (fun _ _ _ _ => trivial) dec_int bs ss _ _ _ hd Tryz.underlying25 h2
    obtain ⟨b2, s2, p2, n2, cp2, l2, d2, v2, q2, _, _⟩ := dec_slice c42' (by decide) (fun _ => rfl) hsp (fun _ _ => True) (fun _ _ _ _ => trivial) dec_span _ _ _ _ _ d1 Tryz.underlying43 h3
    obtain ⟨b3, s3, p3, n3, cp3, l3, d3, v3, q3, _, _⟩ := dec_slice c3' (by decide) (fun _ => rfl) hsp (fun _ _ => True) (fun _ _ _ _ => trivial) dec_int _ _ _ _ _ d2 Tryz.underlying25 h4
    have w1 := (v1.mono (injOf_le _ s2)).mono (injOf_le _ s3)
    have w2 := v2.mono (injOf_le _ s3)
    have x1 := heapOf_ext (bs ++ b1 ++ b2) b3
    have x2 := (heapOf_ext (bs ++ b1) b2).trans x1
    refine ⟨b1 ++ b2 ++ b3, s1 ++ s2 ++ s3, ⟨k0, k1, p1, n1, cp1, p2, n2, cp2, p3, n3, cp3, l1, l2, l3⟩, ?_⟩
    have eb : bs ++ (b1 ++ b2 ++ b3) = bs ++ b1 ++ b2 ++ b3 := by simp
    have es : ss ++ (s1 ++ s2 ++ s3) = ss ++ s1 ++ s2 ++ s3 := by simp
    rw [eb, es]
    simp only [c3'] at e0 e1
    simp only [c25', c43'] at w1 w2 v3
    match cs, hl with
    | [a0, a1, a2, a3, a4], _ =>
      simp at e0 e1
      subst e0; subst e1
      exact ⟨d3, .cons (.int _ _) (.cons (.int _ _) (w1.append (w2.append v3))), q1.ext x2, q2.ext x1, q3⟩

theorem dec_stn (hsp : ∀ b, spare b = true) (bs : List Blk) (ss : List Spot) (n : Nat) (cs : List Value) (y : DataW K × List MemPlace) (hd : Dec Tryz.prog W bs ss) (h : DataW.trod enc0 Tryz.prog W base spare held n 24 cs = some y) :
    ∃ bs' ss' s, Dec Tryz.prog W (bs ++ bs') (ss ++ ss') ∧ VsRel (injOf (ss ++ ss')) (encSt s) cs ∧ StnAt (heapOf (bs ++ bs')) s := by
  obtain ⟨y0, y1, y2, m, rfl, hl, h0, h1, h2⟩ := Deep.trod_struct3 Tryz.underlying24 h
  rw [c24'] at hl
  obtain ⟨b1, s1, p, n', cp, l, d1, v1, q1, _, g1⟩ := dec_slice c45' (by decide) (fun _ => rfl) hsp GoodH GoodH.mono (dec_hand hsp) bs ss _ _ _ hd Tryz.underlying22 h0
  obtain ⟨k1, e1, _⟩ := int3 h1
  obtain ⟨k2, e2, _⟩ := int3 h2
  simp only [c3', c22'] at e1 e2 v1
  match cs, hl with
  | [a0, a1, a2], _ =>
    simp at e1 e2
    subst e1; subst e2
    exact ⟨b1, s1, ⟨p, n', cp, k1, k2, l⟩, d1, v1.append (.cons (.int _ _) (.cons (.int _ _) .nil)), q1, fun h hh => (g1 h hh).1, fun h hh => (g1 h hh).2⟩

theorem dec_alarm (hsp : ∀ b, spare b = true) (bs : List Blk) (ss : List Spot) (n : Nat) (cs : List Value) (y : DataW K × List MemPlace) (hd : Dec Tryz.prog W bs ss) (h : DataW.trod enc0 Tryz.prog W base spare held n 27 cs = some y) :
    ∃ bs' ss' call p n' c len seats, Dec Tryz.prog W (bs ++ bs') (ss ++ ss') ∧ VsRel (injOf (ss ++ ss')) [.int .i64 call, .slice p n' c, .int .i64 len] cs ∧ SlP (heapOf (bs ++ bs')) 1 encI p n' seats := by
  obtain ⟨y0, y1, y2, m, rfl, hl, h0, h1, h2⟩ := Deep.trod_struct3 Tryz.underlying27 h
  rw [c27'] at hl
  obtain ⟨b1, s1, p, n', cp, l, d1, v1, q1, _, _⟩ := dec_slice c3' (by decide) (fun _ => rfl) hsp (fun _ _ => True) (fun _ _ _ _ => trivial) dec_int bs ss _ _ _ hd Tryz.underlying25 h1
  obtain ⟨k0, e0, _⟩ := int3 h0
  obtain ⟨k2, e2, _⟩ := int3 h2
  simp only [c3', c25'] at e0 e2 v1
  match cs, hl with
  | [a0, a1, a2], _ =>
    simp at e0 e2
    subst e0; subst e2
    exact ⟨b1, s1, k0, p, n', cp, k2, l, d1, .cons (.int _ _) (v1.append (.cons (.int _ _) .nil)), q1⟩
end
end LV
