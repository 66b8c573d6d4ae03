/- Plain laws, part s: the bound of Euler's number: with pairs of places joined, orbits of both permutations are at most as many as pairs, and two for each part. -/
import Derived.Test.YtbodmnijpdffaaaDoorDr
namespace Go.V
open Go
theorem orbF_congr {f g : Nat → Nat} {P : Nat → Prop} {N : Nat} (h : Perm f P N) (e : ∀ x, P x → f x = g x) {x y : Nat} (hx : P x) : OrbF f x y ↔ OrbF g x y := by
  have key : ∀ k, iter g k x = iter f k x := fun k => by
    induction k with
    | zero => rfl
    | succ k ih => rw [iter_succ, iter_succ, ih, e _ (h.iter hx k)]
  exact ⟨fun ⟨k, hk⟩ => ⟨k, hk.trans (key k).symm⟩, fun ⟨k, hk⟩ => ⟨k, hk.trans (key k)⟩⟩
theorem Perm.congr {f g : Nat → Nat} {P : Nat → Prop} {N : Nat} (h : Perm f P N) (e : ∀ x, P x → f x = g x) : Perm g P N := ⟨h.lt, fun x hx => e x hx ▸ h.into x hx, fun x y hx hy k => h.inj x y hx hy (by rw [e x hx, e y hy, k])⟩
theorem ncl_orb_congr {f g : Nat → Nat} {P : Nat → Prop} {N : Nat} (h : Perm f P N) (e : ∀ x, P x → f x = g x) : ncl (OrbF f) P N = ncl (OrbF g) P N :=
  ncl_congr (fun _ _ => Iff.rfl) fun _ _ _ _ hx _ => orbF_congr h e hx
/-- α joins the places of P in pairs. -/
structure Pairs (α : Nat → Nat) (P : Nat → Prop) : Prop where
  into : ∀ q, P q → P (α q)
  back : ∀ q, P q → α (α q) = q
  ne : ∀ q, P q → α q ≠ q
def aK (α : Nat → Nat) (k q : Nat) : Nat := if min q (α q) < k then α q else q
theorem aK_zero (α : Nat → Nat) (q : Nat) : aK α 0 q = q := by simp [aK]
theorem aK_all {α : Nat → Nat} {N q : Nat} (h : q < N) : aK α N q = α q := by rw [aK, if_pos (by omega)]
theorem aK_step {α : Nat → Nat} {P : Nat → Prop} (h : Pairs α P) {k : Nat} (hk : P k) (hl : k < α k) {q : Nat} (hq : P q) : aK α (k + 1) q = aK α k (swp k (α k) q) := by
  have hb := h.back k hk
  by_cases e : q = k
  · subst e
    rw [swp_a, aK, aK, if_pos (by omega), hb, if_neg (by omega)]
  · by_cases e2 : q = α k
    · subst e2
      rw [swp_b, aK, aK, hb, if_pos (by omega), if_neg (by omega)]
    · rw [swp_o e e2, aK, aK]
      have hb2 := h.back q hq
      have hne : α q ≠ k := fun e3 => e2 (by rw [← e3, hb2])
      by_cases h1 : min q (α q) < k
      · rw [if_pos h1, if_pos (by omega)]
      · rw [if_neg h1, if_neg (by omega)]
theorem aK_keep {α : Nat → Nat} {P : Nat → Prop} (h : Pairs α P) {k : Nat} (hk : ¬ (P k ∧ k < α k)) {q : Nat} (hq : P q) : aK α (k + 1) q = aK α k q := by
  have hb := h.back q hq
  have hn := h.ne q hq
  have hp := h.into q hq
  rw [aK, aK]
  by_cases h1 : min q (α q) < k
  · rw [if_pos h1, if_pos (by omega)]
  · rw [if_neg h1, if_neg]
    intro h2
    apply hk
    rcases Nat.lt_or_ge q (α q) with h3 | h3
    · obtain rfl : q = k := by omega
      exact ⟨hq, h3⟩
    · obtain e : α q = k := by omega
      subst e
      exact ⟨hp, by rw [hb]; omega⟩
/-- What is joined by the permutation and by the first pairs. -/
noncomputable def cRel (ρ α : Nat → Nat) (P : Nat → Prop) : Nat → Nat → Nat → Prop
  | 0 => OrbF ρ
  | k + 1 => @ite _ (P k ∧ k < α k) (Classical.propDecidable _) (glue (cRel ρ α P k) k (α k)) (cRel ρ α P k)
noncomputable def tb (p : Prop) : Bool := @decide p (Classical.propDecidable _)
theorem tb_iff {p : Prop} : tb p = true ↔ p := @decide_eq_true_iff _ (Classical.propDecidable _)
noncomputable def ePairs (α : Nat → Nat) (P : Nat → Prop) (N : Nat) : Nat := ((List.range N).filter fun q => tb (P q ∧ q < α q)).length
noncomputable def cardP (P : Nat → Prop) (N : Nat) : Nat := ((List.range N).filter fun q => tb (P q)).length
theorem ePairs_succ (α : Nat → Nat) (P : Nat → Prop) (k : Nat) : ePairs α P (k + 1) = ePairs α P k + @ite _ (P k ∧ k < α k) (Classical.propDecidable _) 1 0 := by
  simp only [ePairs, List.range_succ, List.filter_append, List.length_append, List.filter_cons, List.filter_nil]
  by_cases h : P k ∧ k < α k
  · rw [if_pos (tb_iff.2 h), if_pos h]; rfl
  · rw [if_neg (fun k => h (tb_iff.1 k)), if_neg h]; rfl
theorem cRel_eqv {ρ α : Nat → Nat} {P : Nat → Prop} {N : Nat} (hρ : Perm ρ P N) (h : Pairs α P) : ∀ k, Eqv (cRel ρ α P k) P
  | 0 => hρ.eqv
  | k + 1 => by
    by_cases hk : P k ∧ k < α k
    · rw [cRel, if_pos hk]; exact (cRel_eqv hρ h k).glue hk.1 (h.into k hk.1)
    · rw [cRel, if_neg hk]; exact cRel_eqv hρ h k
theorem cRel_mono {ρ α : Nat → Nat} {P : Nat → Prop} {x y : Nat} (k : Nat) (c : cRel ρ α P k x y) : cRel ρ α P (k + 1) x y := by
  by_cases hk : P k ∧ k < α k
  · rw [cRel, if_pos hk]; exact .inl c
  · rw [cRel, if_neg hk]; exact c
theorem cRel_le {ρ α : Nat → Nat} {P : Nat → Prop} {x y : Nat} {k : Nat} (c : cRel ρ α P k x y) : ∀ m, cRel ρ α P (k + m) x y
  | 0 => c
  | m + 1 => cRel_mono _ (cRel_le c m)
theorem cRel_rho {ρ α : Nat → Nat} {P : Nat → Prop} {x : Nat} (N : Nat) : cRel ρ α P N x (ρ x) := by
  have : cRel ρ α P (0 + N) x (ρ x) := cRel_le (k := 0) (show OrbF ρ x (ρ x) from ⟨1, rfl⟩) N
  rwa [Nat.zero_add] at this
theorem cRel_alpha {ρ α : Nat → Nat} {P : Nat → Prop} {N : Nat} (hρ : Perm ρ P N) (h : Pairs α P) {x : Nat} (hx : P x) : cRel ρ α P N x (α x) := by
  have key : ∀ k, P k → k < α k → cRel ρ α P N k (α k) := fun k pk hl => by
    have h1 : cRel ρ α P (k + 1) k (α k) := by rw [cRel, if_pos ⟨pk, hl⟩]; exact glue_ab (cRel_eqv hρ h k) pk (h.into k pk)
    have h2 := cRel_le h1 (N - (k + 1))
    have := hρ.lt k pk
    rwa [show k + 1 + (N - (k + 1)) = N by omega] at h2
  have e := cRel_eqv hρ h N
  rcases Nat.lt_or_ge x (α x) with h1 | h1
  · exact key x hx h1
  · have h2 := h.ne x hx
    have h3 := key (α x) (h.into x hx) (by rw [h.back x hx]; omega)
    rw [h.back x hx] at h3
    exact e.symm _ _ (h.into x hx) hx h3
theorem cRel_into {ρ α : Nat → Nat} {P : Nat → Prop} {N : Nat} (h : Pairs α P) {R : Nat → Nat → Prop} (e : Eqv R P) (h1 : ∀ x, P x → R x (ρ x)) (hi : ∀ x, P x → P (ρ x)) (h2 : ∀ x, P x → R x (α x)) : ∀ k x y, P x → P y → cRel ρ α P k x y → R x y
  | 0, x, y, hx, _, ⟨m, hm⟩ => by
    subst hm
    have key : ∀ m, P (iter ρ m x) ∧ R x (iter ρ m x) := fun m => by
      induction m with
      | zero => exact ⟨hx, e.refl x hx⟩
      | succ m ih => rw [iter_succ]; exact ⟨hi _ ih.1, e.trans _ _ _ hx ih.1 (hi _ ih.1) ih.2 (h1 _ ih.1)⟩
    exact (key m).2
  | k + 1, x, y, hx, hy, c => by
    by_cases hk : P k ∧ k < α k
    · rw [cRel, if_pos hk] at c
      exact glue_of e hk.1 (h.into k hk.1) (h2 k hk.1) (fun u v hu hv => cRel_into (N := N) h e h1 hi h2 k u v hu hv) hx hy c
    · rw [cRel, if_neg hk] at c
      exact cRel_into (N := N) h e h1 hi h2 k x y hx hy c
theorem euler_step {ρ α : Nat → Nat} {P : Nat → Prop} {N : Nat} (hρ : Perm ρ P N) (h : Pairs α P) : ∀ k, Perm (fun q => ρ (aK α k q)) P N ∧ (∀ x y, P x → P y → OrbF (fun q => ρ (aK α k q)) x y → cRel ρ α P k x y) ∧
    ncl (OrbF fun q => ρ (aK α k q)) P N + ncl (OrbF ρ) P N ≤ ePairs α P k + 2 * ncl (cRel ρ α P k) P N
  | 0 => by
    have e : (fun q => ρ (aK α 0 q)) = ρ := funext fun q => by rw [aK_zero]
    rw [e]
    refine ⟨hρ, fun x y _ _ o => o, ?_⟩
    show ncl (OrbF ρ) P N + ncl (OrbF ρ) P N ≤ ePairs α P 0 + 2 * ncl (OrbF ρ) P N
    omega
  | k + 1 => by
    obtain ⟨hp, hc, hn⟩ := euler_step hρ h k
    have ec := cRel_eqv hρ h k
    by_cases hk : P k ∧ k < α k
    · have pa := hk.1
      have pb := h.into k hk.1
      have heq : ∀ q, P q → (fun q => (fun q => ρ (aK α k q)) (swp k (α k) q)) q = (fun q => ρ (aK α (k + 1) q)) q := fun q hq => by
        show ρ (aK α k (swp k (α k) q)) = ρ (aK α (k + 1) q)
        rw [aK_step h hk.1 hk.2 hq]
      have hs := hp.swap pa pb
      have hE : ePairs α P (k + 1) = ePairs α P k + 1 := by rw [ePairs_succ, if_pos hk]
      have hC : cRel ρ α P (k + 1) = glue (cRel ρ α P k) k (α k) := by rw [cRel, if_pos hk]
      have hsub : ∀ x y, P x → P y → OrbF (fun q => ρ (aK α (k + 1) q)) x y → cRel ρ α P (k + 1) x y := fun x y hx hy o => by
        rw [hC]
        have g := hp.swap_glue pa pb hx ((orbF_congr hs heq hx).2 o)
        exact glue_of (ec.glue pa pb) pa pb (glue_ab ec pa pb) (fun u v hu hv r => .inl (hc u v hu hv r)) hx hy g
      refine ⟨hs.congr heq, hsub, ?_⟩
      rw [← ncl_orb_congr hs heq, hE]
      by_cases hcon : cRel ρ α P k k (α k)
      · have h1 := hp.swap_le pa pb
        have h2 : ncl (cRel ρ α P k) P N ≤ ncl (cRel ρ α P (k + 1)) P N := by
          refine ncl_coarse (cRel_eqv hρ h (k + 1)) fun x y hx hy g => ?_
          rw [hC] at g
          exact glue_of ec pa pb hcon (fun u v _ _ r => r) hx hy g
        omega
      · have h1 := (hp.swap_lt pa pb fun o => hcon (hc _ _ pa pb o)).2
        have h2 : ncl (cRel ρ α P k) P N ≤ ncl (cRel ρ α P (k + 1)) P N + 1 := ncl_glue_ge (a := k) (b := α k) ec (cRel_eqv hρ h (k + 1)) pa (hρ.lt _ pb) pb fun x y _ _ g => by rwa [hC] at g
        omega
    · have heq : ∀ q, P q → (fun q => ρ (aK α k q)) q = (fun q => ρ (aK α (k + 1) q)) q := fun q hq => by
        show ρ (aK α k q) = ρ (aK α (k + 1) q)
        rw [aK_keep h hk hq]
      have hE : ePairs α P (k + 1) = ePairs α P k := by rw [ePairs_succ, if_neg hk]; rfl
      have hC : cRel ρ α P (k + 1) = cRel ρ α P k := by rw [cRel, if_neg hk]
      rw [hE, hC, ← ncl_orb_congr hp heq]
      exact ⟨hp.congr heq, fun x y hx hy o => hc x y hx hy ((orbF_congr hp heq hx).2 o), hn⟩
/-- Euler's bound. -/
theorem euler {ρ α : Nat → Nat} {P : Nat → Prop} {N : Nat} (hρ : Perm ρ P N) (h : Pairs α P) : ncl (OrbF fun q => ρ (α q)) P N + ncl (OrbF ρ) P N ≤ ePairs α P N + 2 * ncl (cRel ρ α P N) P N := by
  obtain ⟨hp, _, hn⟩ := euler_step hρ h N
  have heq : ∀ q, P q → (fun q => ρ (aK α N q)) q = (fun q => ρ (α q)) q := fun q hq => by
    show ρ (aK α N q) = ρ (α q)
    rw [aK_all (hρ.lt q hq)]
  rwa [ncl_orb_congr hp heq] at hn
theorem ePairs_half {α : Nat → Nat} {P : Nat → Prop} {N : Nat} (h : Pairs α P) (hl : ∀ x, P x → x < N) : 2 * ePairs α P N ≤ cardP P N := by
  have h1 : cardP P N = ePairs α P N + ((List.range N).filter fun q => tb (P q ∧ α q < q)).length := by
    refine filter_split _ _ _ _ (fun x _ => ?_) (fun x _ hh => ?_)
    · rw [Bool.eq_iff_iff, Bool.or_eq_true]
      simp only [tb_iff]
      constructor
      · intro hp
        have := h.ne x hp
        rcases Nat.lt_or_ge x (α x) with h3 | h3
        · exact .inl ⟨hp, h3⟩
        · exact .inr ⟨hp, by omega⟩
      · rintro (hp | hp)
        · exact hp.1
        · exact hp.1
    · have a := tb_iff.1 hh.1
      have b := tb_iff.1 hh.2
      omega
  have h2 : ePairs α P N ≤ ((List.range N).filter fun q => tb (P q ∧ α q < q)).length := by
    refine inj_len (fun x y => y = α x) _ _ (fun x hx => ?_) ?_
    · have hx2 := tb_iff.1 (List.mem_filter.1 hx).2
      refine ⟨α x, List.mem_filter.2 ⟨List.mem_range.2 (hl _ (h.into x hx2.1)), tb_iff.2 ⟨h.into x hx2.1, by rw [h.back x hx2.1]; exact hx2.2⟩⟩, rfl⟩
    · refine List.Pairwise.imp_of_mem ?_ (List.Pairwise.filter _ List.pairwise_lt_range)
      intro x y hx hy hxy b _ e1 e2
      have hx2 := (tb_iff.1 (List.mem_filter.1 hx).2).1
      have hy2 := (tb_iff.1 (List.mem_filter.1 hy).2).1
      have : x = y := by rw [← h.back x hx2, ← e1, e2, h.back y hy2]
      omega
  omega
end Go.V
