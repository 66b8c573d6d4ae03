/- Plain laws, part r: classes of equivalences, counted; permutations and their orbits; the bound of Euler's number. -/
import Derived.Test.YtbodmnijpdffaaaDoorDq
namespace Go.V
open Go
/-! ### Counting classes -/
noncomputable def repB (R : Nat → Nat → Prop) (P : Nat → Prop) (x : Nat) : Bool := @decide (P x ∧ ∀ y, y < x → P y → ¬ R y x) (Classical.propDecidable _)
theorem repB_iff {R : Nat → Nat → Prop} {P : Nat → Prop} {x : Nat} : repB R P x = true ↔ P x ∧ ∀ y, y < x → P y → ¬ R y x := @decide_eq_true_iff _ (Classical.propDecidable _)
/-- How many classes of R there are among the numbers below N with P. -/
noncomputable def ncl (R : Nat → Nat → Prop) (P : Nat → Prop) (N : Nat) : Nat := ((List.range N).filter (repB R P)).length
/-- R is an equivalence on what has P. -/
structure Eqv (R : Nat → Nat → Prop) (P : Nat → Prop) : Prop where
  refl : ∀ x, P x → R x x
  symm : ∀ x y, P x → P y → R x y → R y x
  trans : ∀ x y z, P x → P y → P z → R x y → R y z → R x z
theorem Eqv.rep {R : Nat → Nat → Prop} {P : Nat → Prop} (e : Eqv R P) : ∀ x, P x → ∃ y, y ≤ x ∧ repB R P y = true ∧ R y x := by
  intro x
  induction x using Nat.strongRecOn with
  | ind x ih =>
    intro hx
    by_cases h : ∃ y, y < x ∧ P y ∧ R y x
    · obtain ⟨y, hy, hp, hr⟩ := h
      obtain ⟨z, hz, h1, h2⟩ := ih y hy hp
      exact ⟨z, by omega, h1, e.trans z y x (repB_iff.1 h1).1 hp hx h2 hr⟩
    · exact ⟨x, Nat.le_refl _, repB_iff.2 ⟨hx, fun y hy hp hr => h ⟨y, hy, hp, hr⟩⟩, e.refl x hx⟩
/-- Classes go to classes apart. -/
theorem ncl_le_of {R R' : Nat → Nat → Prop} {P P' : Nat → Prop} {N N' : Nat} (e' : Eqv R' P') (T : Nat → Nat → Prop) (ht : ∀ x, x < N → P x → ∃ x', x' < N' ∧ P' x' ∧ T x x')
    (hi : ∀ x y x' y', P x → P y → P' x' → P' y' → T x x' → T y y' → R' x' y' → R x y) : ncl R P N ≤ ncl R' P' N' := by
  refine inj_len (fun x b => ∃ x', P' x' ∧ T x x' ∧ R' b x') _ _ (fun x hx => ?_) ?_
  · obtain ⟨hx, hr⟩ := List.mem_filter.1 hx
    obtain ⟨x', hx', hp', t⟩ := ht x (List.mem_range.1 hx) (repB_iff.1 hr).1
    obtain ⟨b, hb, h1, h2⟩ := e'.rep x' hp'
    exact ⟨b, List.mem_filter.2 ⟨List.mem_range.2 (by omega), h1⟩, x', hp', t, h2⟩
  · refine List.Pairwise.imp_of_mem ?_ (List.Pairwise.filter _ List.pairwise_lt_range)
    intro x y hx hy hxy b hb ⟨x', px, tx, rx⟩ ⟨y', py, ty, ry⟩
    have hx := repB_iff.1 (List.mem_filter.1 hx).2
    have hy := repB_iff.1 (List.mem_filter.1 hy).2
    have pb := (repB_iff.1 (List.mem_filter.1 hb).2).1
    exact hy.2 x hxy hx.1 (hi x y x' y' hx.1 hy.1 px py tx ty (e'.trans _ _ _ px pb py (e'.symm _ _ pb px rx) ry))
theorem filter_split {α : Type} (p q r : α → Bool) (l : List α) (h : ∀ x ∈ l, p x = (q x || r x)) (h2 : ∀ x ∈ l, ¬ (q x = true ∧ r x = true)) : (l.filter p).length = (l.filter q).length + (l.filter r).length := by
  induction l with
  | nil => rfl
  | cons x l ih =>
    have ih := ih (fun y hy => h y (List.mem_cons_of_mem _ hy)) (fun y hy => h2 y (List.mem_cons_of_mem _ hy))
    have hx := h x List.mem_cons_self
    have hx2 := h2 x List.mem_cons_self
    simp only [List.filter_cons]
    cases hq : q x <;> cases hr : r x <;> simp_all <;> omega
/-- Classes of two kinds. -/
theorem ncl_split {R : Nat → Nat → Prop} {P : Nat → Prop} {N : Nat} (Q : Nat → Prop) (hq : ∀ x y, P x → P y → R x y → (Q x ↔ Q y)) : ncl R P N = ncl R (fun x => P x ∧ Q x) N + ncl R (fun x => P x ∧ ¬ Q x) N := by
  refine filter_split _ _ _ _ (fun x _ => ?_) (fun x _ h => ?_)
  · rw [Bool.eq_iff_iff, Bool.or_eq_true, repB_iff, repB_iff, repB_iff]
    constructor
    · rintro ⟨hp, hr⟩
      by_cases h : Q x
      · exact .inl ⟨⟨hp, h⟩, fun y hy hpy => hr y hy hpy.1⟩
      · exact .inr ⟨⟨hp, h⟩, fun y hy hpy => hr y hy hpy.1⟩
    · rintro (⟨⟨hp, h⟩, hr⟩ | ⟨⟨hp, h⟩, hr⟩)
      · exact ⟨hp, fun y hy hpy k => hr y hy ⟨hpy, (hq y x hpy hp k).2 h⟩ k⟩
      · exact ⟨hp, fun y hy hpy k => hr y hy ⟨hpy, fun q => h ((hq y x hpy hp k).1 q)⟩ k⟩
  · exact (repB_iff.1 h.2).1.2 (repB_iff.1 h.1).1.2
theorem ncl_congr {R R' : Nat → Nat → Prop} {P P' : Nat → Prop} {N : Nat} (hp : ∀ x, x < N → (P x ↔ P' x)) (hr : ∀ x y, x < N → y < N → P x → P y → (R x y ↔ R' x y)) : ncl R P N = ncl R' P' N := by
  refine congrArg List.length (List.filter_congr fun x hx => ?_)
  have hx := List.mem_range.1 hx
  rw [Bool.eq_iff_iff, repB_iff, repB_iff]
  constructor
  · rintro ⟨h1, h2⟩
    refine ⟨(hp x hx).1 h1, fun y hy py k => ?_⟩
    have py := (hp y (by omega)).2 py
    exact h2 y hy py ((hr y x (by omega) hx py h1).2 k)
  · rintro ⟨h1, h2⟩
    have h1 := (hp x hx).2 h1
    exact ⟨h1, fun y hy py k => h2 y hy ((hp y (by omega)).1 py) ((hr y x (by omega) hx py h1).1 k)⟩
theorem ncl_one {R : Nat → Nat → Prop} {P : Nat → Prop} {N b : Nat} (e : Eqv R P) (hb : b < N) (pb : P b) (h : ∀ x, x < N → P x → R b x) : ncl R P N = 1 := by
  obtain ⟨y, hy, hr, k⟩ := e.rep b pb
  have hl : (List.range N).filter (repB R P) = [y] := by
    have hy2 : y ∈ (List.range N).filter (repB R P) := List.mem_filter.2 ⟨List.mem_range.2 (by omega), hr⟩
    have hn : ((List.range N).filter (repB R P)).Pairwise (· < ·) := List.Pairwise.filter _ List.pairwise_lt_range
    have hu : ∀ z ∈ (List.range N).filter (repB R P), z = y := fun z hz => by
      obtain ⟨h1, h2⟩ := List.mem_filter.1 hz
      have h1 := List.mem_range.1 h1
      have h2 := repB_iff.1 h2
      have h3 := repB_iff.1 hr
      have r1 : R y z := e.trans _ _ _ h3.1 pb h2.1 k (h z h1 h2.1)
      rcases Nat.lt_trichotomy y z with h4 | h4 | h4
      · exact absurd r1 (h2.2 y h4 h3.1)
      · exact h4.symm
      · exact absurd (e.symm _ _ h3.1 h2.1 r1) (h3.2 z h4 h2.1)
    cases hL : (List.range N).filter (repB R P) with
    | nil => rw [hL] at hy2; cases hy2
    | cons a l =>
      rw [hL] at hu hn
      have ha := hu a List.mem_cons_self
      subst ha
      cases l with
      | nil => rfl
      | cons b l =>
        have hb2 := hu b (List.mem_cons_of_mem _ List.mem_cons_self)
        have := (List.pairwise_cons.1 hn).1 b List.mem_cons_self
        omega
  rw [ncl, hl]; rfl
theorem Eqv.sub {R : Nat → Nat → Prop} {P P' : Nat → Prop} (e : Eqv R P) (h : ∀ x, P' x → P x) : Eqv R P' := ⟨fun x hx => e.refl x (h x hx), fun x y hx hy => e.symm x y (h x hx) (h y hy), fun x y z hx hy hz => e.trans x y z (h x hx) (h y hy) (h z hz)⟩
/-- The class of b, and the others. -/
theorem ncl_but {R : Nat → Nat → Prop} {P : Nat → Prop} {N b : Nat} (e : Eqv R P) (hb : b < N) (pb : P b) : ncl R P N = 1 + ncl R (fun x => P x ∧ ¬ R x b) N := by
  rw [ncl_split (fun x => R x b) (fun x y px py k => ⟨fun h => e.trans _ _ _ py px pb (e.symm _ _ px py k) h, fun h => e.trans _ _ _ px py pb k h⟩)]
  congr 1
  exact ncl_one (b := b) (e.sub fun x h => h.1) hb ⟨pb, e.refl b pb⟩ fun x _ hx => e.symm _ _ hx.1 pb hx.2
/-- Two classes made one. -/
def glue (R : Nat → Nat → Prop) (a b : Nat) (x y : Nat) : Prop := R x y ∨ (R x a ∧ R b y) ∨ (R x b ∧ R a y)
theorem Eqv.glue {R : Nat → Nat → Prop} {P : Nat → Prop} (e : Eqv R P) {a b : Nat} (pa : P a) (pb : P b) : Eqv (V.glue R a b) P where
  refl x hx := .inl (e.refl x hx)
  symm x y hx hy h := by
    rcases h with h | ⟨h1, h2⟩ | ⟨h1, h2⟩
    · exact .inl (e.symm _ _ hx hy h)
    · exact .inr (.inr ⟨e.symm _ _ pb hy h2, e.symm _ _ hx pa h1⟩)
    · exact .inr (.inl ⟨e.symm _ _ pa hy h2, e.symm _ _ hx pb h1⟩)
  trans x y z hx hy hz h k := by
    rcases h with h | ⟨h1, h2⟩ | ⟨h1, h2⟩ <;> rcases k with k | ⟨k1, k2⟩ | ⟨k1, k2⟩
    · exact .inl (e.trans _ _ _ hx hy hz h k)
    · exact .inr (.inl ⟨e.trans _ _ _ hx hy pa h k1, k2⟩)
    · exact .inr (.inr ⟨e.trans _ _ _ hx hy pb h k1, k2⟩)
    · exact .inr (.inl ⟨h1, e.trans _ _ _ pb hy hz h2 k⟩)
    · exact .inr (.inl ⟨h1, k2⟩)
    · exact .inl (e.trans _ _ _ hx pa hz h1 k2)
    · exact .inr (.inr ⟨h1, e.trans _ _ _ pa hy hz h2 k⟩)
    · exact .inl (e.trans _ _ _ hx pb hz h1 k2)
    · exact .inr (.inr ⟨h1, k2⟩)
theorem ncl_glue_ge {R R' : Nat → Nat → Prop} {P : Nat → Prop} {N a b : Nat} (e : Eqv R P) (e' : Eqv R' P) (_ : P a) (hb : b < N) (pb : P b) (h : ∀ x y, P x → P y → R' x y → glue R a b x y) : ncl R P N ≤ ncl R' P N + 1 := by
  rw [ncl_but e hb pb, Nat.add_comm]
  refine Nat.add_le_add_right (ncl_le_of e' (fun x x' => x = x') (fun x hx px => ⟨x, hx, px.1, rfl⟩) ?_) 1
  rintro x y x' y' px py _ _ rfl rfl hr
  rcases h x y px.1 py.1 hr with h | ⟨_, h2⟩ | ⟨h1, _⟩
  · exact h
  · exact absurd (e.symm _ _ pb py.1 h2) py.2
  · exact absurd h1 px.2
theorem ncl_coarse {R R' : Nat → Nat → Prop} {P : Nat → Prop} {N : Nat} (e : Eqv R P) (h : ∀ x y, P x → P y → R x y → R' x y) : ncl R' P N ≤ ncl R P N :=
  ncl_le_of e (fun x x' => x = x') (fun x hx px => ⟨x, hx, px, rfl⟩) (by rintro x y x' y' px py _ _ rfl rfl hr; exact h x y px py hr)
theorem ncl_glue_lt {R R' : Nat → Nat → Prop} {P : Nat → Prop} {N a b : Nat} (e : Eqv R P) (e' : Eqv R' P) (ha : a < N) (pa : P a) (hb : b < N) (pb : P b) (hn : ¬ R a b) (hR : ∀ x y, P x → P y → R x y → R' x y) (hab : R' a b) : ncl R' P N + 1 ≤ ncl R P N := by
  rw [ncl_but e hb pb, Nat.add_comm]
  refine Nat.add_le_add_left (ncl_le_of (e.sub fun x h => h.1) (fun x x' => R' x x' ∧ P x') (fun x hx px => ?_) ?_) 1
  · by_cases hx2 : R x b
    · exact ⟨a, ha, ⟨pa, hn⟩, e'.trans _ _ _ px pb pa (hR _ _ px pb hx2) (e'.symm _ _ pa pb hab), pa⟩
    · exact ⟨x, hx, ⟨px, hx2⟩, e'.refl x px, px⟩
  · rintro x y x' y' px py ⟨px', _⟩ ⟨py', _⟩ ⟨tx, _⟩ ⟨ty, _⟩ hr
    exact e'.trans _ _ _ px px' py tx (e'.trans _ _ _ px' py' py (hR _ _ px' py' hr) (e'.symm _ _ py py' ty))
/-! ### Permutations -/
/-- f permutes what has P; all of it lies below N. -/
structure Perm (f : Nat → Nat) (P : Nat → Prop) (N : Nat) : Prop where
  lt : ∀ x, P x → x < N
  into : ∀ x, P x → P (f x)
  inj : ∀ x y, P x → P y → f x = f y → x = y
def OrbF (f : Nat → Nat) (x y : Nat) : Prop := ∃ k, y = iter f k x
theorem Perm.iter {f : Nat → Nat} {P : Nat → Prop} {N : Nat} (h : Perm f P N) {x : Nat} (hx : P x) : ∀ k, P (V.iter f k x)
  | 0 => hx
  | k + 1 => by rw [iter_succ]; exact h.into _ (h.iter hx k)
theorem Perm.back {f : Nat → Nat} {P : Nat → Prop} {N : Nat} (h : Perm f P N) {x : Nat} (hx : P x) : ∃ j, V.iter f (j + 1) x = x := by
  -- outside of P the map stays where it is
  have hg : ∀ k y, P y → V.iter (fun z => @ite _ (P z) (Classical.propDecidable _) (f z) z) k y = V.iter f k y := by
    intro k
    induction k with
    | zero => intro y _; rfl
    | succ k ih => intro y hy; rw [iter_succ, iter_succ, ih y hy, if_pos (h.iter hy k)]
  obtain ⟨j, _, hj⟩ := comes_back (f := fun z => @ite _ (P z) (Classical.propDecidable _) (f z) z) (N := N) (fun z hz => by
    split
    · rename_i hp; exact h.lt _ (h.into _ hp)
    · exact hz) (fun y z _ _ e => by
    split at e
    · split at e
      · rename_i h1 h2; exact h.inj _ _ h1 h2 e
      · rename_i h1 h2; exact absurd (e ▸ h.into _ h1) h2
    · split at e
      · rename_i h1 h2; exact absurd (e ▸ h.into _ h2) h1
      · exact e) (h.lt x hx)
  rw [hg _ _ hx] at hj
  exact ⟨j, hj⟩
theorem Perm.orb_symm {f : Nat → Nat} {P : Nat → Prop} {N : Nat} (h : Perm f P N) {x y : Nat} (hx : P x) (o : OrbF f x y) : OrbF f y x := by
  obtain ⟨k, rfl⟩ := o
  induction k with
  | zero => exact ⟨0, rfl⟩
  | succ k ih =>
    obtain ⟨m, hm⟩ := ih
    obtain ⟨j, hj⟩ := h.back (h.iter hx k)
    refine ⟨m + j, ?_⟩
    rw [iter_add, iter_succ]
    have : V.iter f j (f (V.iter f k x)) = V.iter f (j + 1) (V.iter f k x) := rfl
    rw [this, hj]; exact hm
theorem orb_trans {f : Nat → Nat} {x y z : Nat} (a : OrbF f x y) (b : OrbF f y z) : OrbF f x z := by
  obtain ⟨i, rfl⟩ := a
  obtain ⟨j, rfl⟩ := b
  exact ⟨j + i, by rw [iter_add]⟩
theorem Perm.eqv {f : Nat → Nat} {P : Nat → Prop} {N : Nat} (h : Perm f P N) : Eqv (OrbF f) P := ⟨fun _ _ => ⟨0, rfl⟩, fun _ _ hx _ o => h.orb_symm hx o, fun _ _ _ _ _ _ a b => orb_trans a b⟩
def swp (a b q : Nat) : Nat := if q = a then b else if q = b then a else q
theorem swp_a (a b : Nat) : swp a b a = b := by simp [swp]
theorem swp_b (a b : Nat) : swp a b b = a := by simp only [swp]; split <;> simp_all
theorem swp_o {a b q : Nat} (h : q ≠ a) (k : q ≠ b) : swp a b q = q := by simp [swp, h, k]
theorem swp_swp (a b q : Nat) : swp a b (swp a b q) = q := by
  by_cases h : q = a
  · subst h; rw [swp_a, swp_b]
  · by_cases k : q = b
    · subst k; rw [swp_b, swp_a]
    · rw [swp_o h k, swp_o h k]
theorem Perm.swap {f : Nat → Nat} {P : Nat → Prop} {N : Nat} (h : Perm f P N) {a b : Nat} (pa : P a) (pb : P b) : Perm (fun q => f (swp a b q)) P N := by
  have hp : ∀ q, P q → P (swp a b q) := fun q hq => by simp only [swp]; split; exact pb; split; exact pa; exact hq
  exact ⟨h.lt, fun x hx => h.into _ (hp x hx), fun x y hx hy e => by rw [← swp_swp a b x, h.inj _ _ (hp x hx) (hp y hy) e, swp_swp]⟩
/-- Orbits behind a swap lie in orbits, of which two are made one. -/
theorem Perm.swap_glue {f : Nat → Nat} {P : Nat → Prop} {N : Nat} (h : Perm f P N) {a b : Nat} (pa : P a) (pb : P b) {x y : Nat} (hx : P x) (o : OrbF (fun q => f (swp a b q)) x y) : glue (OrbF f) a b x y := by
  obtain ⟨k, rfl⟩ := o
  have e := h.eqv.glue pa pb
  have hs := h.swap pa pb
  induction k with
  | zero => exact e.refl x hx
  | succ k ih =>
    have pk := hs.iter hx k
    rw [iter_succ]
    refine e.trans _ _ _ hx pk (hs.into _ pk) ih ?_
    generalize V.iter (fun q => f (swp a b q)) k x = z at pk ⊢
    by_cases h1 : z = a
    · subst h1; rw [swp_a]; exact .inr (.inl ⟨⟨0, rfl⟩, 1, rfl⟩)
    · by_cases h2 : z = b
      · subst h2; rw [swp_b]; exact .inr (.inr ⟨⟨0, rfl⟩, 1, rfl⟩)
      · rw [swp_o h1 h2]; exact .inl ⟨1, rfl⟩
theorem Perm.glue_swap {f : Nat → Nat} {P : Nat → Prop} {N : Nat} (h : Perm f P N) {a b : Nat} (pa : P a) (pb : P b) {x y : Nat} (hx : P x) (o : OrbF f x y) : glue (OrbF (fun q => f (swp a b q))) a b x y := by
  refine (h.swap pa pb).swap_glue pa pb hx ?_
  obtain ⟨k, rfl⟩ := o
  refine ⟨k, ?_⟩
  have : (fun q => (fun q => f (swp a b q)) (swp a b q)) = f := funext fun q => by show f (swp a b (swp a b q)) = f q; rw [swp_swp]
  rw [this]
theorem glue_ab {R : Nat → Nat → Prop} {P : Nat → Prop} (e : Eqv R P) {a b : Nat} (pa : P a) (pb : P b) : glue R a b a b := .inr (.inl ⟨e.refl a pa, e.refl b pb⟩)
theorem glue_of {R R' : Nat → Nat → Prop} {P : Nat → Prop} (e' : Eqv R' P) {a b : Nat} (pa : P a) (pb : P b) (hab : R' a b) (hR : ∀ x y, P x → P y → R x y → R' x y) {x y : Nat} (hx : P x) (hy : P y) (g : glue R a b x y) : R' x y := by
  rcases g with g | ⟨g1, g2⟩ | ⟨g1, g2⟩
  · exact hR _ _ hx hy g
  · exact e'.trans _ _ _ hx pa hy (hR _ _ hx pa g1) (e'.trans _ _ _ pa pb hy hab (hR _ _ pb hy g2))
  · exact e'.trans _ _ _ hx pb hy (hR _ _ hx pb g1) (e'.trans _ _ _ pb pa hy (e'.symm _ _ pa pb hab) (hR _ _ pa hy g2))
/-- A swap makes at most one orbit more. -/
theorem Perm.swap_le {f : Nat → Nat} {P : Nat → Prop} {N : Nat} (h : Perm f P N) {a b : Nat} (pa : P a) (pb : P b) : ncl (OrbF (fun q => f (swp a b q))) P N ≤ ncl (OrbF f) P N + 1 := by
  have hs := h.swap pa pb
  refine Nat.le_trans (ncl_glue_ge (a := a) (b := b) hs.eqv (h.eqv.glue pa pb) pa (h.lt b pb) pb (fun x y hx hy g => ?_)) (Nat.add_le_add_right (ncl_coarse h.eqv fun x y _ _ r => .inl r) 1)
  exact glue_of (hs.eqv.glue pa pb) pa pb (glue_ab hs.eqv pa pb) (fun u v hu _ r => h.glue_swap pa pb hu r) hx hy g
/-- A swap of places in two orbits makes one of both. -/
theorem Perm.swap_lt {f : Nat → Nat} {P : Nat → Prop} {N : Nat} (h : Perm f P N) {a b : Nat} (pa : P a) (pb : P b) (hn : ¬ OrbF f a b) : OrbF (fun q => f (swp a b q)) a b ∧ ncl (OrbF (fun q => f (swp a b q))) P N + 1 = ncl (OrbF f) P N := by
  have hs := h.swap pa pb
  have hab : OrbF (fun q => f (swp a b q)) a b := by
    -- from a the walk is at f b and goes on to b
    obtain ⟨j, hj⟩ := h.back pb
    have key : ∀ k, OrbF (fun q => f (swp a b q)) a (V.iter f k (f b)) ∨ OrbF (fun q => f (swp a b q)) a b := fun k => by
      induction k with
      | zero => exact .inl ⟨1, by show f b = f (swp a b a); rw [swp_a]⟩
      | succ k ih =>
        rcases ih with ih | ih
        · by_cases h1 : V.iter f k (f b) = b
          · rw [h1] at ih; exact .inr ih
          · have h2 : V.iter f k (f b) ≠ a := fun e2 => hn (h.orb_symm pb ⟨k + 1, e2.symm⟩)
            exact .inl (orb_trans ih ⟨1, by show _ = f (swp a b (V.iter f k (f b))); rw [swp_o h2 h1, iter_succ]⟩)
        · exact .inr ih
    rcases key j with h1 | h1
    · have : V.iter f j (f b) = b := hj
      rw [this] at h1; exact h1
    · exact h1
  refine ⟨hab, Nat.le_antisymm (ncl_glue_lt h.eqv hs.eqv (h.lt a pa) pa (h.lt b pb) pb hn (fun x y hx hy r => ?_) hab) (ncl_glue_ge (a := a) (b := b) h.eqv hs.eqv pa (h.lt b pb) pb fun x y hx _ r => h.swap_glue pa pb hx r)⟩
  exact glue_of hs.eqv pa pb hab (fun u v _ _ r => r) hx hy (h.glue_swap pa pb hx r)
end Go.V
