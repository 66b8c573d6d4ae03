/- Diagrams as data, part h: changed diagrams. -/
import Derived.Test.YtbodmnijpdffaaaDoorDg
import Derived.Test.YtbodmnijpdffaaaDoorVk
namespace Go.V
open Go
theorem encCr_len (x : Cr) : (encCr x).length = 5 := rfl
theorem encCr_one (l : List Cr) : (l.flatMap encCr).all Value.oneCell' = true := by
  rw [List.all_eq_true]
  intro u hu
  obtain ⟨x, _, hx⟩ := List.mem_flatMap.1 hu
  simp [encCr] at hx
  rcases hx with rfl | rfl | rfl | rfl | rfl <;> rfl
theorem DiaAt.cells {w : World} {base : Option Addr} {A : Addr} {d : Dia} (h : DiaAt w base A d) : Cells w A (d.cross.flatMap encCr) := fun j v hj => by
  rw [flat_get_inv encCr_len (by decide)] at hj
  cases hx : d.cross[j / 5]? with
  | none => rw [hx] at hj; cases hj
  | some x =>
    rw [hx] at hj
    have := h.cell (j / 5) x hx (j % 5) v hj
    rw [add_add] at this
    rwa [show j / 5 * 5 + j % 5 = j by omega] at this
theorem DiaAt.cells' {w : World} {base : Option Addr} {A B : Addr} {d : Dia} (h : DiaAt w base A d) (hb : base = some B) : Cells w B (d.cross.flatMap encCr) := by
  rcases Nat.eq_zero_or_pos d.cross.length with h0 | h0
  · have : d.cross = [] := List.length_eq_zero_iff.1 h0
    rw [this]; exact Cells.nil _ _
  · have := h.base h0
    rw [hb] at this
    cases this
    exact h.cells
theorem DiaAt.of_cells {w : World} {base : Option Addr} {A : Addr} {d : Dia} (hb : 0 < d.cross.length → base = some A) (hc : Cells w A (d.cross.flatMap encCr)) (hl : d.cross.length ≤ 9223372036854775807) (hw : ∀ x ∈ d.cross, x.Wf) (ho : In64 d.loops) : DiaAt w base A d :=
  ⟨hb, fun i x hi j v hj => by
    have := hc (i * 5 + j) v (flat_get encCr_len hi hj)
    rwa [← add_add] at this, hl, hw, ho⟩
def mapTo (f : Cr → Cr) (l : List Cr) (c : Nat) : List Cr := (l.take c).map f ++ l.drop c
theorem mapTo_len (f : Cr → Cr) (l : List Cr) (c : Nat) : (mapTo f l c).length = l.length := by simp [mapTo]; omega
theorem mapTo_get {f : Cr → Cr} {l : List Cr} {c : Nat} {x : Cr} (hx : l[c]? = some x) : (mapTo f l c)[c]? = some x := by
  have hc := (List.getElem?_eq_some_iff.1 hx).1
  rw [mapTo, List.getElem?_append_right (by simp; omega)]
  simp [Nat.min_eq_left (Nat.le_of_lt hc), hx]
theorem mapTo_set {f : Cr → Cr} {l : List Cr} {c : Nat} {x : Cr} (hx : l[c]? = some x) : (mapTo f l c).set c (f x) = mapTo f l (c + 1) := by
  obtain ⟨hc, e⟩ := List.getElem?_eq_some_iff.1 hx
  rw [mapTo, mapTo, List.set_append_right _ _ (by simp; omega), List.take_add_one, hx, List.map_append, List.append_assoc]
  congr 1
  rw [List.drop_eq_getElem_cons hc, e]
  simp [Nat.min_eq_left (Nat.le_of_lt hc)]
theorem mapTo_zero (f : Cr → Cr) (l : List Cr) : mapTo f l 0 = l := by simp [mapTo]
theorem mapTo_all (f : Cr → Cr) (l : List Cr) : mapTo f l l.length = l.map f := by simp [mapTo]
def mapD (f : Cr → Cr) (d : Dia) : Dia := ⟨d.cross.map f, d.loops⟩
theorem mapD_len (f : Cr → Cr) (d : Dia) : (mapD f d).cross.length = d.cross.length := by simp [mapD]
/-- The crossings of a diagram that the call owns. -/
def ownD (g : Option Addr × Nat) (d : Dia) : HL := HL.own 69 5 (.slice g.1 d.cross.length g.2) d.cross.length (d.cross.flatMap encCr)
abbrev OKB (g : Option Addr × Nat) (n : Nat) : Prop := 0 < n → g.1 = some (vaddr (.slice g.1 n g.2))
theorem wf_of_sound {d : Dia} (h : SoundP d) : (∀ x ∈ d.cross, x.Wf) ∧ In64 d.loops ∧ d.cross.length ≤ 9223372036854775807 := by
  have h0 := h.1
  refine ⟨fun x hx => ?_, ⟨by have := h.2.1; omega, by have := h.2.2.1; omega⟩, by omega⟩
  have hs := (h.2.2.2.1 x hx).1
  have hp := (h.2.2.2.1 x hx).2
  have p0 : 0 ≤ x.a0 ∧ x.a0 < 2 * d.cross.length := hp 0 (by omega)
  have p1 : 0 ≤ x.a1 ∧ x.a1 < 2 * d.cross.length := hp 1 (by omega)
  have p2 : 0 ≤ x.a2 ∧ x.a2 < 2 * d.cross.length := hp 2 (by omega)
  have p3 : 0 ≤ x.a3 ∧ x.a3 < 2 * d.cross.length := hp 3 (by omega)
  exact ⟨⟨by omega, by omega⟩, ⟨by omega, by omega⟩, ⟨by omega, by omega⟩, ⟨by omega, by omega⟩, ⟨by omega, by omega⟩⟩
theorem DiaAt.of_ownD {w : World} {g : Option Addr × Nat} {d : Dia} (hs : SoundP d) (ho : (ownD g d).holds w) : DiaAt w g.1 (vaddr (.slice g.1 d.cross.length g.2)) d := by
  have hw := wf_of_sound hs
  have ho' : w.ownsRow 0 69 5 (.slice g.1 d.cross.length g.2) d.cross.length (d.cross.flatMap encCr) := ho
  obtain ⟨b, c, e, hb⟩ := own_shape ho'
  cases e
  exact DiaAt.of_cells hb (own_all ho') hw.2.2 hw.1 hw.2.1
/-- The mirror image of a crossing; its reflection. -/
def mirCr (x : Cr) : Cr := if x.s = 1 then ⟨x.a3, x.a0, x.a1, x.a2, -1⟩ else ⟨x.a1, x.a2, x.a3, x.a0, 1⟩
def refCr (x : Cr) : Cr := ⟨x.a0, x.a3, x.a2, x.a1, -x.s⟩
theorem ownD_take (f : Cr → Cr) (d : Dia) (vb : Option Addr) (vc : Nat) : ownD (vb, vc) (mapD f d) = HL.own 69 5 (.slice vb d.cross.length vc) d.cross.length (((d.cross.take d.cross.length).map f).flatMap encCr) := by
  rw [ownD, mapD_len, List.take_length]; rfl
theorem arcs_of {x : Cr} {j : Nat} {u : Value} (h : [iv x.a0, iv x.a1, iv x.a2, iv x.a3][j]? = some u) : (encCr x)[j]? = some u := by
  match j, h with
  | 0, h => exact h
  | 1, h => exact h
  | 2, h => exact h
  | 3, h => exact h
  | (j + 4), h => simp at h
theorem cr_snoc {l : List Cr} {y : Cr} {vs : List Value} (h : vs = encCr y) : l.flatMap encCr ++ vs = (l ++ [y]).flatMap encCr := by
  subst h; rw [List.flatMap_append]; simp
theorem mir_neg {x : Cr} (h : x.s = -1) : [iv x.a1, iv x.a2, iv x.a3, iv x.a0, iv (-x.s)] = encCr (mirCr x) := by rw [mirCr, if_neg (by omega), h]; rfl
theorem mir_pos {x : Cr} (h : x.s = 1) : [iv x.a3, iv x.a0, iv x.a1, iv x.a2, iv (-x.s)] = encCr (mirCr x) := by rw [mirCr, if_pos h, h]; rfl
def mirD (d : Dia) : Dia := mapD mirCr d
def refD (d : Dia) : Dia := mapD refCr d
end Go.V
