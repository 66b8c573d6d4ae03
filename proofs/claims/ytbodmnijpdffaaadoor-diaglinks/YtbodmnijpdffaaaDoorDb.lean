/- Diagrams as data, part b: connected crossings, pieces, the planar diagrams. -/
import Derived.Test.YtbodmnijpdffaaaDoorDa
namespace Go.V
open Go
inductive Conn (d : Dia) (a : Nat) : Nat → Prop
  | refl : Conn d a a
  | step {c p : Nat} (h : Conn d a c) (hp : p < 4) : Conn d a (otherQ d (4 * c + p) / 4)
theorem Conn.lt {d : Dia} (hs : SoundP d) {a c : Nat} (ha : a < d.cross.length) (h : Conn d a c) : c < d.cross.length := by
  induction h with
  | refl => exact ha
  | @step c p h hp ih => have := hs.other_lt (q := 4 * c + p) (by omega); omega
theorem Conn.trans {d : Dia} {a b c : Nat} (h : Conn d a b) (k : Conn d b c) : Conn d a c := by
  induction k with
  | refl => exact h
  | step _ hp ih => exact ih.step hp
theorem Conn.back1 {d : Dia} (hs : SoundP d) {c p : Nat} (hc : c < d.cross.length) (hp : p < 4) : Conn d (otherQ d (4 * c + p) / 4) c := by
  have hq : 4 * c + p < 4 * d.cross.length := by omega
  have h1 := hs.other_lt hq
  have h2 := hs.other_other hq
  have h3 := Conn.step (d := d) (a := otherQ d (4 * c + p) / 4) (p := otherQ d (4 * c + p) % 4) .refl (by omega)
  rw [show 4 * (otherQ d (4 * c + p) / 4) + otherQ d (4 * c + p) % 4 = otherQ d (4 * c + p) by omega, h2, show (4 * c + p) / 4 = c by omega] at h3
  exact h3
theorem Conn.symm {d : Dia} (hs : SoundP d) {a c : Nat} (ha : a < d.cross.length) (h : Conn d a c) : Conn d c a := by
  induction h with
  | refl => exact .refl
  | step h hp ih => exact (Conn.back1 hs (h.lt hs ha) hp).trans ih
noncomputable def connB (d : Dia) (a c : Nat) : Bool := @decide (Conn d a c) (Classical.propDecidable _)
theorem connB_iff {d : Dia} {a c : Nat} : connB d a c = true ↔ Conn d a c := @decide_eq_true_iff _ (Classical.propDecidable _)
theorem connB_false {d : Dia} {a c : Nat} : connB d a c = false ↔ ¬ Conn d a c := @decide_eq_false_iff_not _ (Classical.propDecidable _)
noncomputable def pieceOf (d : Dia) (a : Nat) : List Nat := (List.range d.cross.length).filter (connB d a)
theorem conn_congr {d : Dia} (hs : SoundP d) {a b : Nat} (ha : a < d.cross.length) (h : Conn d a b) (c : Nat) : connB d a c = connB d b c := by
  by_cases hc : Conn d a c
  · rw [connB_iff.2 hc, connB_iff.2 ((h.symm hs ha).trans hc)]
  · rw [connB_false.2 hc, connB_false.2 (fun k => hc (h.trans k))]
theorem piece_congr {d : Dia} (hs : SoundP d) {a b : Nat} (ha : a < d.cross.length) (h : Conn d a b) : pieceOf d a = pieceOf d b := by
  simp only [pieceOf]; exact congrArg (fun f => List.filter f _) (funext (conn_congr hs ha h))
theorem mem_piece {d : Dia} {a c : Nat} : c ∈ pieceOf d a ↔ c < d.cross.length ∧ Conn d a c := by simp [pieceOf, connB_iff]
theorem piece_self {d : Dia} {a : Nat} (ha : a < d.cross.length) : a ∈ pieceOf d a := mem_piece.2 ⟨ha, .refl⟩
theorem piece_nodup (d : Dia) (a : Nat) : (pieceOf d a).Nodup := List.Nodup.sublist List.filter_sublist List.nodup_range
/-! ### The closure that the reference works out -/
def Cl (d : Dia) (xs : List Bool) (c p : Nat) : Prop := xs[c]? = some true → xs[otherQ d (4 * c + p) / 4]? = some true
def falses (xs : List Bool) : Nat := (xs.filter fun b => !b).length
theorem falses_set {xs : List Bool} : ∀ {i : Nat}, xs[i]? = some false → falses (xs.set i true) + 1 = falses xs := by
  induction xs with
  | nil => intro i h; simp at h
  | cons b r ih =>
    intro i h
    cases i with
    | zero => simp at h; subst h; simp [falses]
    | succ i =>
      have := ih (i := i) (by simpa using h)
      simp only [falses, List.set_cons_succ, List.filter_cons] at this ⊢
      cases b <;> simp <;> omega
theorem closed_conn {d : Dia} (hs : SoundP d) {a : Nat} {xs : List Bool} (ha : a < d.cross.length) (hxs : xs.length = d.cross.length) (h0 : xs[a]? = some true) (hc : ∀ c, xs[c]? = some true → Conn d a c) (hcl : ∀ c p, c < d.cross.length → p < 4 → Cl d xs c p) (c : Nat) (hlt : c < d.cross.length) :
    xs[c]? = some (connB d a c) := by
  have key : ∀ c, Conn d a c → xs[c]? = some true := by
    intro c h
    induction h with
    | refl => exact h0
    | step h hp ih => exact hcl _ _ (h.lt hs ha) hp ih
  obtain ⟨y, hy⟩ := get_of_lt (l := xs) (i := c) (by omega)
  rw [hy]
  cases y
  · rw [connB_false.2 (fun k => by rw [key c k] at hy; cases hy)]
  · rw [connB_iff.2 (hc c hy)]
/-! ### Planar diagrams -/
noncomputable def cntReg (d : Dia) (a : Nat) : Nat := ((regsOf d).filter fun r => connB d a (r.headD 0 / 4)).length
def PlanarP (d : Dia) : Prop := ∀ c, c < d.cross.length → cntReg d c = (pieceOf d c).length + 2
theorem cntReg_congr {d : Dia} (hs : SoundP d) {a b : Nat} (ha : a < d.cross.length) (h : Conn d a b) : cntReg d a = cntReg d b := by
  simp only [cntReg, conn_congr hs ha h]
theorem regionOf_head {d : Dia} {q : Nat} (h : 0 < d.cross.length) : (regionOf d q).headD 0 = q ∧ 0 < (regionOf d q).length := by
  simp only [regionOf]
  obtain ⟨k, hk⟩ : ∃ k, 4 * d.cross.length = k + 1 := ⟨4 * d.cross.length - 1, by omega⟩
  rw [hk, orbGo]; simp
theorem piece_first (d : Dia) {c : Nat} (hc : c < d.cross.length) : ∃ m, (pieceOf d c)[0]? = some m := by
  have := piece_self (d := d) hc
  cases h : pieceOf d c with
  | nil => rw [h] at this; cases this
  | cons m r => exact ⟨m, rfl⟩
theorem piece_len (d : Dia) (c : Nat) : (pieceOf d c).length ≤ d.cross.length := by
  have := List.length_filter_le (connB d c) (List.range d.cross.length); rwa [List.length_range] at this
theorem piece_sorted (d : Dia) (c : Nat) : (pieceOf d c).Pairwise (· < ·) := List.Pairwise.sublist List.filter_sublist List.pairwise_lt_range
theorem piece_head_le {d : Dia} {c m x : Nat} (hm : (pieceOf d c)[0]? = some m) (hx : x ∈ pieceOf d c) : m ≤ x := by
  have hs := piece_sorted d c
  cases h : pieceOf d c with
  | nil => rw [h] at hx; cases hx
  | cons y r =>
    rw [h] at hm hx hs
    simp at hm; subst hm
    rcases List.mem_cons.1 hx with rfl | hx
    · exact Nat.le_refl _
    · exact Nat.le_of_lt (List.rel_of_pairwise_cons hs hx)
theorem planar_other {d : Dia} (hs : SoundP d) {c m : Nat} (hc : c < d.cross.length) (hm : (pieceOf d c)[0]? = some m) (h : ∀ c', c' < c → cntReg d c' = (pieceOf d c').length + 2) (hne : (m : Int) ≠ (c : Int)) : cntReg d c = (pieceOf d c).length + 2 := by
  have h1 := piece_head_le hm (piece_self hc)
  have h2 := mem_piece.1 (List.mem_of_getElem? hm)
  rw [cntReg_congr hs hc h2.2, piece_congr hs hc h2.2]
  exact h m (by omega)
theorem regs_head {d : Dia} {Q : Nat} {rs : List (Value × List Nat)} (hr : rs.map Prod.snd = regsTo d Q) (hQ : Q ≤ 4 * d.cross.length) {a : Value × List Nat} (ha : a ∈ rs) : a.2.headD 0 / 4 < d.cross.length ∧ a.2[0]? = some (a.2.headD 0) := by
  obtain ⟨q, hq, e⟩ := regsTo_mem d Q a.2 (by rw [← hr]; exact List.mem_map_of_mem ha)
  obtain ⟨h1, h2⟩ := regionOf_head (d := d) (q := q) (by omega)
  rw [e, h1]
  refine ⟨by omega, ?_⟩
  cases hl : regionOf d q with
  | nil => rw [hl] at h2; simp at h2
  | cons x r => rw [hl] at h1; simp at h1; simp [h1]
theorem piece_has {d : Dia} {c x : Nat} (hx : x < d.cross.length) : (pieceOf d c).contains x = connB d c x := by
  cases h : connB d c x
  · refine Bool.eq_false_iff.2 fun h2 => ?_
    have := (mem_piece.1 (List.contains_iff_mem.1 h2)).2
    rw [connB_iff.2 this] at h; cases h
  · exact List.contains_iff_mem.2 (mem_piece.2 ⟨hx, connB_iff.1 h⟩)
theorem take_has {l : List Nat} {k y x : Nat} (hy : l[k]? = some y) : (l.take (k + 1)).contains x = ((l.take k).contains x || decide (x = y)) := by
  rw [List.take_add_one, hy, List.contains_eq_mem, List.contains_eq_mem]; simp [Bool.decide_or]
theorem take_fresh {l : List Nat} (hn : l.Nodup) {k y x : Nat} (hy : l[k]? = some y) (e : x = y) : (l.take k).contains x = false := by
  subst e
  refine Bool.eq_false_iff.2 fun h => ?_
  obtain ⟨i, hi⟩ := List.getElem?_of_mem (List.contains_iff_mem.1 h)
  have hik : i < k := by have := (List.getElem?_eq_some_iff.1 hi).1; simp at this; omega
  rw [List.getElem?_take_of_lt hik] at hi
  obtain ⟨h1, e1⟩ := (List.getElem?_eq_some_iff.1 hi)
  obtain ⟨h2, e2⟩ := (List.getElem?_eq_some_iff.1 hy)
  exact (List.pairwise_iff_getElem.1 (List.nodup_iff_pairwise_ne.1 hn)) i k h1 h2 hik (e1.trans e2.symm)
theorem cntReg_rs {d : Dia} {rs : List (Value × List Nat)} (hr : rs.map Prod.snd = regsOf d) (c : Nat) : cntReg d c = (rs.filter fun a => connB d c (a.2.headD 0 / 4)).length := by
  rw [cntReg, ← hr, List.filter_map, List.length_map]; rfl
noncomputable def planarB (d : Dia) : Bool := @decide (PlanarP d) (Classical.propDecidable _)
theorem planarB_true {d : Dia} (h : PlanarP d) : Value.bool true = .bool (planarB d) := congrArg Value.bool (@decide_eq_true _ (Classical.propDecidable _) h).symm
theorem planarB_false {d : Dia} (h : ¬ PlanarP d) : Value.bool false = .bool (planarB d) := congrArg Value.bool (@decide_eq_false _ (Classical.propDecidable _) h).symm
theorem planarB_iff {d : Dia} : planarB d = true ↔ PlanarP d := @decide_eq_true_iff _ (Classical.propDecidable _)
/-- What Check answers: 0, 220 or 221. -/
noncomputable def checkI (d : Dia) : Int := bif soundB d then (bif planarB d then 0 else 221) else 220
end Go.V
