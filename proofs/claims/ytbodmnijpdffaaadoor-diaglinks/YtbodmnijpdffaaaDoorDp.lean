/- Plain laws, part p: components of changed diagrams; mirror images, reflections, reversals. -/
import Derived.Test.YtbodmnijpdffaaaDoorDo
namespace Go.V
open Go
/-! ### Components are the orbits of the arcs -/
theorem getD_set {l : List Int} {b i : Nat} {k : Int} (hb : b < l.length) : (l.set b k).getD i 0 = if b = i then k else l.getD i 0 := by
  rw [List.getD_eq_getElem?_getD, List.getElem?_set, List.getD_eq_getElem?_getD]
  by_cases e : b = i
  · subst e; rw [if_pos rfl, if_pos hb, if_pos rfl]; rfl
  · rw [if_neg e, if_neg e]
theorem markC_orb {nx : Nat → Nat} {N b : Nat} {k : Int} (hk : 0 ≤ k) (hlt : ∀ a, a < N → nx a < N) (hb : b < N) {out : List Int} (hneg : ∀ m, out.getD (iter nx m b) 0 < 0) : ∀ (f j : Nat) (cur : List Int), cur.length = N → negs cur ≤ f →
    (∀ i, i < N → ((∃ m, m < j ∧ i = iter nx m b) → cur.getD i 0 = k) ∧ ((¬ ∃ m, m < j ∧ i = iter nx m b) → cur.getD i 0 = out.getD i 0)) →
    ∀ i, i < N → ((∃ m, i = iter nx m b) → (markC nx k f cur (iter nx j b)).getD i 0 = k) ∧ ((¬ ∃ m, i = iter nx m b) → (markC nx k f cur (iter nx j b)).getD i 0 = out.getD i 0) := by
  have stop : ∀ (f j : Nat) (cur : List Int), ¬ cur.getD (iter nx j b) 0 < 0 →
      (∀ i, i < N → ((∃ m, m < j ∧ i = iter nx m b) → cur.getD i 0 = k) ∧ ((¬ ∃ m, m < j ∧ i = iter nx m b) → cur.getD i 0 = out.getD i 0)) →
      ∀ i, i < N → ((∃ m, i = iter nx m b) → (markC nx k f cur (iter nx j b)).getD i 0 = k) ∧ ((¬ ∃ m, i = iter nx m b) → (markC nx k f cur (iter nx j b)).getD i 0 = out.getD i 0) := by
    intro f j cur h hc i hi
    rw [markC_stop h]
    have hm : ∃ m, m < j ∧ iter nx j b = iter nx m b := Classical.byContradiction fun hn => by
      have := (hc _ (iter_lt hlt j b hb)).2 hn
      rw [this] at h; exact h (hneg j)
    obtain ⟨m, hmj, e⟩ := hm
    have all : ∀ m', ∃ m, m < j ∧ iter nx m' b = iter nx m b := fun m' => by
      induction m' with
      | zero => exact ⟨0, by omega, rfl⟩
      | succ m' ih =>
        obtain ⟨m2, h2, e2⟩ := ih
        rw [iter_succ, e2, ← iter_succ nx m2 b]
        rcases Nat.lt_or_ge (m2 + 1) j with h3 | h3
        · exact ⟨m2 + 1, h3, rfl⟩
        · obtain rfl : m2 + 1 = j := by omega
          exact ⟨m, hmj, e⟩
    refine ⟨fun ⟨m', e'⟩ => ?_, fun hn => (hc i hi).2 fun ⟨m, _, e⟩ => hn ⟨m, e⟩⟩
    obtain ⟨m2, h2, e2⟩ := all m'
    exact (hc i hi).1 ⟨m2, h2, e'.trans e2⟩
  intro f
  induction f with
  | zero =>
    intro j cur hl hn hc
    refine stop 0 j cur (fun h => ?_) hc
    have := negs_pos (by rw [hl]; exact iter_lt hlt j b hb) h
    omega
  | succ f ih =>
    intro j cur hl hn hc
    by_cases h : cur.getD (iter nx j b) 0 < 0
    · have hjl : iter nx j b < N := iter_lt hlt j b hb
      rw [markC_go h, ← iter_succ nx j b]
      refine ih (j + 1) _ (by simp [hl]) (by have := negs_set (by omega) h hk; omega) (fun i hi => ?_)
      rw [getD_set (by omega)]
      by_cases e : iter nx j b = i
      · rw [if_pos e]
        exact ⟨fun _ => rfl, fun hn => absurd ⟨j, by omega, e.symm⟩ hn⟩
      · rw [if_neg e]
        refine ⟨fun ⟨m, hm, em⟩ => (hc i hi).1 ⟨m, ?_, em⟩, fun hn => (hc i hi).2 fun ⟨m, hm, em⟩ => hn ⟨m, by omega, em⟩⟩
        rcases Nat.lt_or_ge m j with h3 | h3
        · exact h3
        · obtain rfl : m = j := by omega
          exact absurd em.symm e
    · exact stop (f + 1) j cur h hc
theorem compTo_mark {nx : Nat → Nat} {N a : Nat} (hlt : ∀ a, a < N → nx a < N) (ha : a < N) {out : List Int} {k : Int} (hk : 0 ≤ k) (hl : out.length = N) (hneg : ∀ m, out.getD (iter nx m a) 0 < 0) {i : Nat} (hi : i < N) : ((∃ m, i = iter nx m a) → (markC nx k N out a).getD i 0 = k) ∧ ((¬ ∃ m, i = iter nx m a) → (markC nx k N out a).getD i 0 = out.getD i 0) := by
  have := markC_orb hk hlt ha hneg N 0 out hl (by have := negs_le out; omega) (fun i _ => ⟨fun ⟨m, h, _⟩ => by omega, fun _ => rfl⟩) i hi
  exact this
theorem compTo_orb {nx : Nat → Nat} {N : Nat} (hlt : ∀ a, a < N → nx a < N) (hinj : ∀ a b, a < N → b < N → nx a = nx b → a = b) : ∀ a, a ≤ N → ∀ i m, i < N → (compTo nx N a).1.getD (iter nx m i) 0 = (compTo nx N a).1.getD i 0 := by
  intro a
  induction a with
  | zero =>
    intro _ i m hi
    have h2 := iter_lt hlt m i hi
    simp [compTo, List.getD_eq_getElem?_getD, hi, h2]
  | succ a ih =>
    intro ha i m hi
    have ih := ih (by omega)
    rw [compTo_succ, compStep]
    split
    · exact ih i m hi
    · rename_i hn
      have hneg : ∀ m, (compTo nx N a).1.getD (iter nx m a) 0 < 0 := fun m => by rw [ih a m (by omega)]; omega
      have hmi := iter_lt hlt m i hi
      have k1 := compTo_mark hlt (show a < N by omega) (k := ((compTo nx N a).2 : Int)) (by omega) (compTo_len _ _ _) hneg hi
      have k2 := compTo_mark hlt (show a < N by omega) (k := ((compTo nx N a).2 : Int)) (by omega) (compTo_len _ _ _) hneg hmi
      by_cases hx : ∃ m', i = iter nx m' a
      · obtain ⟨m', e⟩ := hx
        exact (k2.1 ⟨m + m', by rw [e, iter_add]⟩).trans (k1.1 ⟨m', e⟩).symm
      · refine (k2.2 fun ⟨m', e⟩ => hx ?_).trans ((ih i m hi).trans (k1.2 hx).symm)
        obtain ⟨m2, e2⟩ := orb_back hlt hinj m i hi
        exact ⟨m2 + m', by rw [e2, e, iter_add]⟩
theorem ext_getD {l l' : List Int} (hl : l.length = l'.length) (h : ∀ i, i < l.length → l.getD i 0 = l'.getD i 0) : l = l' := by
  refine List.ext_getElem hl fun i h1 h2 => ?_
  have := h i h1
  simpa [List.getD_eq_getElem?_getD, h1, h2] using this
theorem compTo_congr {nx nx' : Nat → Nat} {N : Nat} (hlt : ∀ a, a < N → nx a < N) (hinj : ∀ a b, a < N → b < N → nx a = nx b → a = b) (hlt' : ∀ a, a < N → nx' a < N) (horb : ∀ i j, i < N → ((∃ m, j = iter nx m i) ↔ ∃ m, j = iter nx' m i)) : ∀ a, a ≤ N → compTo nx' N a = compTo nx N a := by
  intro a
  induction a with
  | zero => intro _; rfl
  | succ a ih =>
    intro ha
    rw [compTo_succ, compTo_succ, ih (by omega), compStep, compStep]
    split
    · rfl
    · rename_i hn
      have hneg : ∀ m, (compTo nx N a).1.getD (iter nx m a) 0 < 0 := fun m => by rw [compTo_orb hlt hinj a (by omega) a m (by omega)]; omega
      have hneg' : ∀ m, (compTo nx N a).1.getD (iter nx' m a) 0 < 0 := fun m => by
        obtain ⟨m', e⟩ := (horb a _ (by omega)).2 ⟨m, rfl⟩
        rw [e]; exact hneg m'
      refine Prod.ext (ext_getD (by rw [markC_len, markC_len]) fun i hi => ?_) rfl
      rw [markC_len, compTo_len] at hi
      have k1 := compTo_mark hlt (show a < N by omega) (k := ((compTo nx N a).2 : Int)) (by omega) (compTo_len _ _ _) hneg hi
      have k2 := compTo_mark hlt' (show a < N by omega) (k := ((compTo nx N a).2 : Int)) (by omega) (compTo_len _ _ _) hneg' hi
      by_cases hx : ∃ m', i = iter nx m' a
      · exact (k2.1 ((horb a i (by omega)).1 hx)).trans (k1.1 hx).symm
      · exact (k2.2 fun k => hx ((horb a i (by omega)).2 k)).trans (k1.2 hx).symm
/-! ### The arc behind an arc -/
theorem rotQ_div (k q : Nat) : rotQ k q / 4 = q / 4 := by simp only [rotQ]; omega
theorem rotQ_mod (k q : Nat) : rotQ k q % 4 = (q % 4 + k) % 4 := by simp only [rotQ]; omega
theorem rotQ_22 (q : Nat) : rotQ 2 (rotQ 2 q) = q := by simp only [rotQ]; omega
theorem rotQ_lt {k q n : Nat} (h : q < 4 * n) : rotQ k q < 4 * n := by simp only [rotQ]; omega
theorem SoundP.sgn {d : Dia} (h : SoundP d) {c : Nat} (hc : c < d.cross.length) : (crAt d c).s = 1 ∨ (crAt d c).s = -1 := (h.2.2.2.1 _ (List.mem_of_getElem? (crAt_get hc))).1
theorem inn_rot2 {x : Cr} (hs : x.s = 1 ∨ x.s = -1) {p : Nat} (hp : p < 4) : x.inn ((p + 2) % 4) = !x.inn p := by
  match p, hp with
  | 0, _ => rcases hs with h | h <;> simp [Cr.inn, h]
  | 1, _ => rcases hs with h | h <;> simp [Cr.inn, h]
  | 2, _ => rcases hs with h | h <;> simp [Cr.inn, h]
  | 3, _ => rcases hs with h | h <;> simp [Cr.inn, h]
theorem SoundP.inn_rot {d : Dia} (h : SoundP d) {q : Nat} (hq : q < 4 * d.cross.length) : innQ d (rotQ 2 q) = !innQ d q := by
  rw [innQ, rotQ_div, rotQ_mod, inn_rot2 (h.sgn (by omega)) (by omega), innQ]
theorem SoundP.next_at {d : Dia} (h : SoundP d) {q : Nat} (hq : q < 4 * d.cross.length) (hi : innQ d q = true) : nextA d (V.arcQ d q) = V.arcQ d (rotQ 2 q) := by
  have ha := h.arcQ hq
  obtain ⟨q', hq'⟩ := h.find (a := (V.arcQ d q).toNat) (by omega) true
  rw [show (((V.arcQ d q).toNat : Nat) : Int) = V.arcQ d q by omega] at hq'
  obtain ⟨l, e1, e2, _⟩ := findEnd_some hq'
  obtain rfl := h.place_unique l hq e1 (e2.trans hi.symm)
  rw [nextA, hq', V.arcQ, rotQ_div, rotQ_mod]
theorem SoundP.nextN_at {d : Dia} (h : SoundP d) {q : Nat} (hq : q < 4 * d.cross.length) (hi : innQ d q = true) : nextN d (V.arcQ d q).toNat = (V.arcQ d (rotQ 2 q)).toNat := by
  have ha := h.arcQ hq
  rw [nextN, show (((V.arcQ d q).toNat : Nat) : Int) = V.arcQ d q by omega, h.next_at hq hi]
/-- The place at which an arc goes in. -/
theorem SoundP.in_at {d : Dia} (h : SoundP d) {a : Nat} (ha : a < 2 * d.cross.length) (inn : Bool) : ∃ q, q < 4 * d.cross.length ∧ V.arcQ d q = (a : Int) ∧ innQ d q = inn := by
  obtain ⟨q, hq⟩ := h.find ha inn
  obtain ⟨l, e1, e2, _⟩ := findEnd_some hq
  exact ⟨q, l, e1, e2⟩
theorem SoundP.next_lt {d : Dia} (h : SoundP d) (a : Nat) (ha : a < 2 * d.cross.length) : nextN d a < 2 * d.cross.length := (h.next ha).2
theorem SoundP.next_inj {d : Dia} (h : SoundP d) (a b : Nat) (ha : a < 2 * d.cross.length) (hb : b < 2 * d.cross.length) (e : nextN d a = nextN d b) : a = b := by
  obtain ⟨p, lp, ap, ip⟩ := h.in_at ha true
  obtain ⟨q, lq, aq, iq⟩ := h.in_at hb true
  have e1 := h.nextN_at lp ip
  have e2 := h.nextN_at lq iq
  rw [ap] at e1
  rw [aq] at e2
  have e3 : (V.arcQ d (rotQ 2 p)).toNat = (V.arcQ d (rotQ 2 q)).toNat := e1.symm.trans (e.trans e2)
  have b1 := h.arcQ (rotQ_lt (k := 2) lp)
  have b2 := h.arcQ (rotQ_lt (k := 2) lq)
  have e4 := h.place_unique (rotQ_lt (k := 2) lp) (rotQ_lt (k := 2) lq) (by omega) (by rw [h.inn_rot lp, h.inn_rot lq, ip, iq])
  have e5 : p = q := by rw [← rotQ_22 p, e4, rotQ_22]
  subst e5
  omega
/-- Both arcs of a strand at a crossing lie in one component. -/
theorem SoundP.comp_next {d : Dia} (h : SoundP d) {a : Nat} (ha : a < 2 * d.cross.length) : (compOf d).getD (nextN d a) 0 = (compOf d).getD a 0 := compTo_orb (fun a ha => h.next_lt a ha) (fun a b ha hb => h.next_inj a b ha hb) _ (Nat.le_refl _) a 1 ha
theorem SoundP.comp_rot {d : Dia} (h : SoundP d) {q : Nat} (hq : q < 4 * d.cross.length) : (compOf d).getD (V.arcQ d (rotQ 2 q)).toNat 0 = (compOf d).getD (V.arcQ d q).toNat 0 := by
  cases hi : innQ d q with
  | true =>
    have ha := h.arcQ hq
    rw [← h.nextN_at hq hi, h.comp_next (by omega)]
  | false =>
    have hq2 := rotQ_lt (k := 2) hq
    have ha := h.arcQ hq2
    have := h.nextN_at hq2 (by rw [h.inn_rot hq, hi]; rfl)
    rw [rotQ_22] at this
    rw [← this, h.comp_next (by omega)]
theorem SoundP.comp_lo {d : Dia} (h : SoundP d) {c : Nat} (hc : c < d.cross.length) : (compOf d).getD (crAt d c).a2.toNat 0 = (compOf d).getD (crAt d c).a0.toNat 0 := by
  have := h.comp_rot (q := 4 * c + 0) (by omega)
  simp only [V.arcQ, rotQ_div, rotQ_mod, show (4 * c + 0) / 4 = c by omega, show (4 * c + 0) % 4 = 0 by omega] at this
  exact this
theorem SoundP.comp_hi {d : Dia} (h : SoundP d) {c : Nat} (hc : c < d.cross.length) : (compOf d).getD (crAt d c).a3.toNat 0 = (compOf d).getD (crAt d c).a1.toNat 0 := by
  have := h.comp_rot (q := 4 * c + 1) (by omega)
  simp only [V.arcQ, rotQ_div, rotQ_mod, show (4 * c + 1) / 4 = c by omega, show (4 * c + 1) % 4 = 1 by omega] at this
  exact this
/-! ### Orbits of arcs in diagrams whose arcs may turn -/
theorem orbits_sub {nx nx' : Nat → Nat} {N : Nat} (hlt : ∀ a, a < N → nx a < N) (hlt' : ∀ a, a < N → nx' a < N) (hinj : ∀ a b, a < N → b < N → nx a = nx b → a = b) (h : ∀ a, a < N → nx' a = nx a ∨ nx (nx' a) = a) : ∀ k i, i < N → ∃ m, iter nx' k i = iter nx m i := by
  intro k
  induction k with
  | zero => intro i _; exact ⟨0, rfl⟩
  | succ k ih =>
    intro i hi
    obtain ⟨m, hm⟩ := ih i hi
    have hl := iter_lt hlt' k i hi
    rw [iter_succ]
    rcases h _ hl with e | e
    · exact ⟨m + 1, by rw [e, hm, ← iter_succ nx m i]⟩
    · obtain ⟨j, _, hj⟩ := comes_back hlt hinj (hlt' _ hl)
      refine ⟨j + m, ?_⟩
      have h2 : iter nx (j + 1) (nx' (iter nx' k i)) = iter nx j (nx (nx' (iter nx' k i))) := rfl
      rw [iter_add, ← hm]
      rw [h2, e] at hj
      exact hj.symm
theorem comp_same {d d' : Dia} (h : SoundP d) (h' : SoundP d') (hl : d'.cross.length = d.cross.length) (h1 : ∀ a, a < 2 * d.cross.length → nextN d' a = nextN d a ∨ nextN d (nextN d' a) = a) (h2 : ∀ a, a < 2 * d.cross.length → nextN d a = nextN d' a ∨ nextN d' (nextN d a) = a) : compOf d' = compOf d ∧ compCount d' = compCount d := by
  have lt' : ∀ a, a < 2 * d.cross.length → nextN d' a < 2 * d.cross.length := fun a ha => by rw [← hl]; exact h'.next_lt a (by omega)
  have inj' : ∀ a b, a < 2 * d.cross.length → b < 2 * d.cross.length → nextN d' a = nextN d' b → a = b := fun a b ha hb => h'.next_inj a b (by omega) (by omega)
  have := compTo_congr (nx := nextN d) (nx' := nextN d') (N := 2 * d.cross.length) (fun a ha => h.next_lt a ha) (fun a b ha hb => h.next_inj a b ha hb) lt' (fun i j hi => ⟨fun ⟨m, e⟩ => ?_, fun ⟨m, e⟩ => ?_⟩) _ (Nat.le_refl _)
  · rw [compOf, compOf, compCount, compCount, hl, this]
    exact ⟨rfl, rfl⟩
  · obtain ⟨k, hk⟩ := orbits_sub lt' (fun a ha => h.next_lt a ha) inj' h2 m i hi
    exact ⟨k, e.trans hk⟩
  · obtain ⟨k, hk⟩ := orbits_sub (fun a ha => h.next_lt a ha) lt' (fun a b ha hb => h.next_inj a b ha hb) h1 m i hi
    exact ⟨k, e.trans hk⟩
/-- A relabelling that goes with opposite places keeps components. -/
theorem RelabF.comp {d d' : Dia} {σ : Nat → Nat} {fl : Int → Bool} (r : RelabF d d' σ fl) (h : SoundP d) (hr : ∀ q, q < 4 * d.cross.length → σ (rotQ 2 q) = rotQ 2 (σ q)) (hf : ∀ q, q < 4 * d.cross.length → fl (arcQ d (rotQ 2 q)) = fl (arcQ d q)) : compOf d' = compOf d ∧ compCount d' = compCount d := by
  have h' := r.sound h
  have hl := r.len
  have key : ∀ a, a < 2 * d.cross.length → (fl (a : Int) = false → nextN d' a = nextN d a) ∧ (fl (a : Int) = true → nextN d (nextN d' a) = a ∧ fl (nextN d' a : Int) = true) := fun a ha => by
    obtain ⟨q, lq, aq, iq⟩ := h'.in_at (a := a) (by omega) true
    have lq : q < 4 * d.cross.length := by omega
    have ls := r.lt lq
    have e1 := h'.nextN_at (q := q) (by omega) iq
    have lr := rotQ_lt (k := 2) lq
    have i2 := r.inn q lq
    have a2 := r.arc q lq
    rw [aq] at a2
    rw [iq, ← a2] at i2
    rw [aq, r.arc _ lr, hr q lq] at e1
    have e1 : nextN d' a = (arcQ d (rotQ 2 (σ q))).toNat := e1
    refine ⟨fun hfl => ?_, fun hfl => ?_⟩
    · rw [hfl] at i2
      have i3 : innQ d (σ q) = true := by
        cases hh : innQ d (σ q) with
        | true => rfl
        | false => rw [hh] at i2; exact absurd i2 (by decide)
      have e2 := h.nextN_at ls i3
      rw [← a2] at e2
      exact e1.trans e2.symm
    · rw [hfl] at i2
      have i3 : innQ d (σ q) = false := by
        cases hh : innQ d (σ q) with
        | false => rfl
        | true => rw [hh] at i2; exact absurd i2 (by decide)
      have ls2 := rotQ_lt (k := 2) ls
      have e2 := h.nextN_at ls2 (by rw [h.inn_rot ls, i3]; rfl)
      have b2 := h.arcQ ls2
      refine ⟨by rw [e1, e2, rotQ_22, ← a2]; rfl, ?_⟩
      rw [e1, show (((arcQ d (rotQ 2 (σ q))).toNat : Nat) : Int) = arcQ d (rotQ 2 (σ q)) by omega, hf _ ls, ← a2, hfl]
  refine comp_same h h' hl (fun a ha => ?_) (fun a ha => ?_)
  · cases hfl : fl (a : Int) with
    | false => exact .inl ((key a ha).1 hfl)
    | true => exact .inr ((key a ha).2 hfl).1
  · cases hfl : fl (a : Int) with
    | false => exact .inl ((key a ha).1 hfl).symm
    | true =>
      -- the arc behind a, in d: it turns as well
      right
      have hb := h.next_lt a ha
      obtain ⟨q, lq, aq, iq⟩ := h.in_at ha true
      have e1 := h.nextN_at lq iq
      rw [aq] at e1
      have e1 : nextN d a = (arcQ d (rotQ 2 q)).toNat := e1
      have b1 := h.arcQ (rotQ_lt (k := 2) lq)
      have hfb : fl (nextN d a : Int) = true := by
        rw [e1, show (((arcQ d (rotQ 2 q)).toNat : Nat) : Int) = arcQ d (rotQ 2 q) by omega, hf q lq, aq, hfl]
      have k2 := (key _ hb).2 hfb
      have hc : nextN d' (nextN d a) < 2 * d.cross.length := by have := h'.next_lt (nextN d a) (by omega); omega
      exact h.next_inj _ _ hc ha k2.1
end Go.V
