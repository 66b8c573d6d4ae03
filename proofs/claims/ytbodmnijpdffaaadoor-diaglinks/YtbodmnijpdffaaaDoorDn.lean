/- Plain laws, part n: diagrams whose places are relabelled within their crossings. -/
import Derived.Test.YtbodmnijpdffaaaDoorDm
namespace Go.V
open Go
theorem SoundP.other_arc {d : Dia} (h : SoundP d) {q : Nat} (hq : q < 4 * d.cross.length) : V.arcQ d (otherQ d q) = V.arcQ d q := (findEnd_some (h.other hq)).2.1
theorem SoundP.other_inn {d : Dia} (h : SoundP d) {q : Nat} (hq : q < 4 * d.cross.length) : innQ d (otherQ d q) = !innQ d q := (findEnd_some (h.other hq)).2.2.1
theorem SoundP.other_ne {d : Dia} (h : SoundP d) {q : Nat} (hq : q < 4 * d.cross.length) : otherQ d q ≠ q := fun e => by
  have := h.other_inn hq
  rw [e] at this
  cases hi : innQ d q <;> rw [hi] at this <;> cases this
theorem SoundP.same_arc {d : Dia} (h : SoundP d) {q q' : Nat} (hq : q < 4 * d.cross.length) (hq' : q' < 4 * d.cross.length) (e : V.arcQ d q = V.arcQ d q') : q' = q ∨ q' = otherQ d q := by
  by_cases hi : innQ d q = innQ d q'
  · exact .inl (h.place_unique hq' hq e.symm hi.symm)
  · refine .inr (h.place_unique hq' (h.other_lt hq) (by rw [h.other_arc hq, e]) ?_)
    rw [h.other_inn hq]
    cases h1 : innQ d q <;> cases h2 : innQ d q' <;> simp [h1, h2] at hi ⊢
structure Relab (d d' : Dia) (σ : Nat → Nat) : Prop where
  len : d'.cross.length = d.cross.length
  cr : ∀ q, q < 4 * d.cross.length → σ q / 4 = q / 4
  inj : ∀ q q', q < 4 * d.cross.length → q' < 4 * d.cross.length → σ q = σ q' → q = q'
  arc : ∀ q, q < 4 * d.cross.length → arcQ d' q = arcQ d (σ q)
theorem Relab.lt {d d' : Dia} {σ : Nat → Nat} (r : Relab d d' σ) {q : Nat} (hq : q < 4 * d.cross.length) : σ q < 4 * d.cross.length := by
  have := r.cr q hq; omega
theorem Relab.other {d d' : Dia} {σ : Nat → Nat} (r : Relab d d' σ) (h : SoundP d) (h' : SoundP d') {q : Nat} (hq : q < 4 * d.cross.length) : σ (otherQ d' q) = otherQ d (σ q) := by
  have hq' : q < 4 * d'.cross.length := by rw [r.len]; exact hq
  have ho : otherQ d' q < 4 * d.cross.length := by rw [← r.len]; exact h'.other_lt hq'
  have e : V.arcQ d (σ q) = V.arcQ d (σ (otherQ d' q)) := by rw [← r.arc q hq, ← r.arc _ ho, h'.other_arc hq']
  rcases h.same_arc (r.lt hq) (r.lt ho) e with h1 | h1
  · exact absurd (r.inj _ _ ho hq h1) (h'.other_ne hq')
  · exact h1
theorem Relab.conn {d d' : Dia} {σ : Nat → Nat} (r : Relab d d' σ) (h : SoundP d) (h' : SoundP d') {a c : Nat} (ha : a < d.cross.length) (hc : Conn d' a c) : Conn d a c := by
  induction hc with
  | refl => exact .refl
  | @step c p hc hp ih =>
    have hl : c < d.cross.length := by rw [← r.len]; exact hc.lt h' (by rw [r.len]; exact ha)
    have hq : 4 * c + p < 4 * d.cross.length := by omega
    have ho : otherQ d' (4 * c + p) < 4 * d.cross.length := by rw [← r.len]; exact h'.other_lt (by rw [r.len]; exact hq)
    have h1 := r.other h h' hq
    have h2 := r.cr _ ho
    have h3 := r.cr _ hq
    have h4 := Conn.step (p := σ (4 * c + p) % 4) ih (by omega)
    rw [show 4 * c + σ (4 * c + p) % 4 = σ (4 * c + p) by omega, ← h1, h2] at h4
    exact h4
theorem crAt_map {f : Cr → Cr} {d : Dia} {c : Nat} (hc : c < d.cross.length) : crAt (mapD f d) c = f (crAt d c) := by
  have h : (mapD f d).cross[c]? = some (f (crAt d c)) := by simp [mapD, crAt_get hc]
  exact crAt_eq h
def rotK (x : Cr) : Nat := if x.s = 1 then 3 else 1
def sigM (d : Dia) (q : Nat) : Nat := 4 * (q / 4) + (q % 4 + rotK (crAt d (q / 4))) % 4
theorem mirCr_arc (x : Cr) {p : Nat} (hp : p < 4) : (mirCr x).arc p = x.arc ((p + rotK x) % 4) := by
  simp only [mirCr, rotK]
  match p, hp with
  | 0, _ => split <;> rfl
  | 1, _ => split <;> rfl
  | 2, _ => split <;> rfl
  | 3, _ => split <;> rfl
theorem relab_mir (d : Dia) : Relab d (mapD mirCr d) (sigM d) where
  len := mapD_len _ _
  cr q _ := by simp only [sigM]; omega
  inj q q' _ _ e := by
    simp only [sigM] at e
    have h4 : q / 4 = q' / 4 := by omega
    rw [h4] at e
    omega
  arc q hq := by
    have hc : q / 4 < d.cross.length := by omega
    rw [arcQ, crAt_map hc, mirCr_arc _ (by omega), arcQ, sigM, show (4 * (q / 4) + (q % 4 + rotK (crAt d (q / 4))) % 4) / 4 = q / 4 by omega, show (4 * (q / 4) + (q % 4 + rotK (crAt d (q / 4))) % 4) % 4 = (q % 4 + rotK (crAt d (q / 4))) % 4 by omega]
def sigR (q : Nat) : Nat := 4 * (q / 4) + (4 - q % 4) % 4
theorem refCr_arc (x : Cr) {p : Nat} (hp : p < 4) : (refCr x).arc p = x.arc ((4 - p) % 4) := by
  match p, hp with
  | 0, _ => rfl
  | 1, _ => rfl
  | 2, _ => rfl
  | 3, _ => rfl
theorem relab_ref (d : Dia) : Relab d (mapD refCr d) sigR where
  len := mapD_len _ _
  cr q _ := by simp only [sigR]; omega
  inj q q' _ _ e := by simp only [sigR] at e; omega
  arc q hq := by
    have hc : q / 4 < d.cross.length := by omega
    rw [arcQ, crAt_map hc, refCr_arc _ (by omega), arcQ, sigR, show (4 * (q / 4) + (4 - q % 4) % 4) / 4 = q / 4 by omega, show (4 * (q / 4) + (4 - q % 4) % 4) % 4 = (4 - q % 4) % 4 by omega]
end Go.V
