/- Plain laws, part k: how many components there are; each place lies in exactly one region. -/
import Derived.Test.YtbodmnijpdffaaaDoorDj
namespace Go.V
open Go
/-! ### The greatest number is the count -/
theorem markC_keep {nx : Nat → Nat} {k : Int} {y : Int} (hy : 0 ≤ y) : ∀ (f : Nat) (out : List Int) (b i : Nat), out[i]? = some y → (markC nx k f out b)[i]? = some y
  | 0, _, _, _, h => h
  | f + 1, out, b, i, h => by
    rw [markC]
    split
    · rename_i hb
      refine markC_keep hy f _ _ i ?_
      rw [List.getElem?_set]
      split
      · rename_i e; subst e
        rw [List.getD_eq_getElem?_getD, h] at hb
        simp at hb; omega
      · exact h
    · exact h
theorem compTo_lt (nx : Nat → Nat) (N a : Nat) : ∀ x ∈ (compTo nx N a).1, x < (compTo nx N a).2 := by
  induction a with
  | zero => intro x hx; simp [compTo] at hx; simp [compTo]; omega
  | succ a ih =>
    rw [compTo_succ, compStep]
    split
    · exact ih
    · intro x hx
      have := markC_le (m := ((compTo nx N a).2 : Int)) (Int.le_refl _) N _ _ (fun x hx => by have := ih x hx; omega) x hx
      show x < (((compTo nx N a).2 + 1 : Nat) : Int)
      omega
theorem compTo_onto (nx : Nat → Nat) (N a : Nat) (ha : a ≤ N) : ∀ k : Nat, k < (compTo nx N a).2 → ∃ i : Nat, (compTo nx N a).1[i]? = some (k : Int) := by
  induction a with
  | zero => intro k hk; simp [compTo] at hk
  | succ a ih =>
    rw [compTo_succ, compStep]
    split
    · exact ih (by omega)
    · rename_i hn
      intro k hk
      have hk : k < (compTo nx N a).2 + 1 := hk
      rcases Nat.lt_or_ge k (compTo nx N a).2 with h | h
      · obtain ⟨i, hi⟩ := ih (by omega) k h
        exact ⟨i, markC_keep (by omega) N _ _ i hi⟩
      · obtain rfl : k = (compTo nx N a).2 := by omega
        refine ⟨a, ?_⟩
        obtain ⟨M, rfl⟩ : ∃ M, N = M + 1 := ⟨N - 1, by omega⟩
        show (markC nx _ (M + 1) _ a)[a]? = _
        rw [markC_go (by omega)]
        refine markC_keep (by omega) M _ _ a ?_
        rw [List.getElem?_set, if_pos rfl, if_pos (by rw [compTo_len]; omega)]
theorem maxOf_go (xs : List Int) : ∀ n : Int, (∀ x ∈ xs, x + 1 ≤ xs.foldl (fun n x => max n (x + 1)) n) ∧ n ≤ xs.foldl (fun n x => max n (x + 1)) n := by
  induction xs with
  | nil => intro n; exact ⟨fun x hx => (by cases hx), Int.le_refl _⟩
  | cons y r ih =>
    intro n
    obtain ⟨h1, h2⟩ := ih (max n (y + 1))
    rw [List.foldl_cons]
    refine ⟨fun x hx => ?_, by omega⟩
    rcases List.mem_cons.1 hx with rfl | hx
    · omega
    · exact h1 x hx
theorem maxOf_count (d : Dia) : maxOf (compOf d) = compCount d := by
  have h1 := (maxTo_bound (xs := compOf d) (m := (compCount d : Int)) (by omega) (fun x hx => by have := compTo_lt _ _ _ x hx; rw [← compCount] at this; omega) (compOf d).length).2
  rw [maxTo, List.take_length] at h1
  have h2 := maxOf_go (compOf d) 0
  rw [← maxOf] at h2
  rcases Nat.eq_zero_or_pos (compCount d) with h | h
  · have := h2.2; omega
  · obtain ⟨i, hi⟩ := compTo_onto (nextN d) (2 * d.cross.length) (2 * d.cross.length) (Nat.le_refl _) (compCount d - 1) (by rw [← compCount]; omega)
    have := h2.1 _ (List.mem_of_getElem? hi)
    omega
/-! ### The regions part the places -/
theorem region_nodup {d : Dia} (h : SoundP d) {q : Nat} (hq : q < 4 * d.cross.length) : (regionOf d q).Nodup := by
  obtain ⟨⟨h0, h1, h2⟩, h3⟩ := h.orb hq
  rw [h3, List.nodup_iff_pairwise_ne, List.pairwise_map]
  refine List.Pairwise.imp_of_mem ?_ List.pairwise_lt_range
  intro i j hi hj hij e
  have hj := List.mem_range.1 hj
  have back : ∀ (a b : Nat), a ≤ b → iter (stepQ d) a q = iter (stepQ d) b q → iter (stepQ d) (b - a) q = q := by
    intro a
    induction a with
    | zero => intro b _ e; simpa [iter] using e.symm
    | succ a ih =>
      intro b hab e
      obtain ⟨b, rfl⟩ : ∃ c, b = c + 1 := ⟨b - 1, by omega⟩
      rw [iter_succ, iter_succ] at e
      have := h.step_inj (iter_lt (fun x hx => h.step_lt hx) a q hq) (iter_lt (fun x hx => h.step_lt hx) b q hq) e
      have := ih b (by omega) this
      rwa [show b + 1 - (a + 1) = b - a by omega]
  exact h2 (j - i) (by omega) (by omega) (back i j (by omega) e)
theorem mem_region {d : Dia} (h : SoundP d) {q y : Nat} (hq : q < 4 * d.cross.length) : y ∈ regionOf d q ↔ ∃ k, y = iter (stepQ d) k q := by
  obtain ⟨⟨h0, h1, h2⟩, h3⟩ := h.orb hq
  constructor
  · intro hy; rw [h3] at hy; obtain ⟨k, _, e⟩ := List.mem_map.1 hy; exact ⟨k, e.symm⟩
  · rintro ⟨k, rfl⟩
    induction k with
    | zero => rw [h3]; exact List.mem_map.2 ⟨0, List.mem_range.2 h0, rfl⟩
    | succ k ih =>
      rw [h3] at ih ⊢
      obtain ⟨m, hm, e⟩ := List.mem_map.1 ih
      have hm := List.mem_range.1 hm
      rw [iter_succ, ← e, ← iter_succ (stepQ d) m q]
      rcases Nat.lt_or_ge (m + 1) (regionOf d q).length with h4 | h4
      · exact List.mem_map.2 ⟨m + 1, List.mem_range.2 h4, rfl⟩
      · have e2 : m + 1 = (regionOf d q).length := by omega
        exact List.mem_map.2 ⟨0, List.mem_range.2 h0, by rw [e2, h1]; rfl⟩
structure RegOk (d : Dia) (Q : Nat) : Prop where
  nodup : (regsTo d Q).flatten.Nodup
  lt : ∀ x ∈ (regsTo d Q).flatten, x < 4 * d.cross.length
  back : ∀ x, x < 4 * d.cross.length → stepQ d x ∈ (regsTo d Q).flatten → x ∈ (regsTo d Q).flatten
  all : ∀ q, q < Q → q ∈ (regsTo d Q).flatten
theorem mem_flat {d : Dia} {Q x : Nat} : x ∈ (regsTo d Q).flatten ↔ (regsTo d Q).any (fun r => r.contains x) = true := by
  rw [List.any_eq_true, List.mem_flatten]
  exact ⟨fun ⟨r, h1, h2⟩ => ⟨r, h1, List.contains_iff_mem.2 h2⟩, fun ⟨r, h1, h2⟩ => ⟨r, h1, List.contains_iff_mem.1 h2⟩⟩
theorem regOk {d : Dia} (h : SoundP d) : ∀ Q, Q ≤ 4 * d.cross.length → RegOk d Q := by
  intro Q
  induction Q with
  | zero => intro _; exact ⟨by simp [regsTo], by simp [regsTo], by simp [regsTo], fun q hq => by omega⟩
  | succ Q ih =>
    intro hQ
    have r := ih (by omega)
    by_cases hin : (regsTo d Q).any (fun r => r.contains Q) = true
    · have e : regsTo d (Q + 1) = regsTo d Q := by rw [regsTo_succ, regStep, if_pos hin]
      refine ⟨e ▸ r.nodup, e ▸ r.lt, e ▸ r.back, fun q hq => ?_⟩
      rw [e]
      rcases Nat.lt_or_ge q Q with h1 | h1
      · exact r.all q h1
      · obtain rfl : q = Q := by omega
        exact mem_flat.2 hin
    · have e : regsTo d (Q + 1) = regsTo d Q ++ [regionOf d Q] := by rw [regsTo_succ, regStep, if_neg hin]
      have hnot : Q ∉ (regsTo d Q).flatten := fun hm => hin (mem_flat.1 hm)
      have hdis : ∀ k, iter (stepQ d) k Q ∉ (regsTo d Q).flatten := by
        intro k
        induction k with
        | zero => exact hnot
        | succ k ih2 => intro hm; rw [iter_succ] at hm; exact ih2 (r.back _ (iter_lt (fun x hx => h.step_lt hx) k Q (by omega)) hm)
      have hfl : (regsTo d (Q + 1)).flatten = (regsTo d Q).flatten ++ regionOf d Q := by rw [e]; simp
      refine ⟨?_, fun x hx => ?_, fun x hx hm => ?_, fun q hq => ?_⟩
      · rw [hfl, List.nodup_append]
        refine ⟨r.nodup, region_nodup h (by omega), fun a ha b hb e2 => ?_⟩
        subst e2
        obtain ⟨k, rfl⟩ := (mem_region h (by omega)).1 hb
        exact hdis k ha
      · rw [hfl] at hx
        rcases List.mem_append.1 hx with hx | hx
        · exact r.lt x hx
        · obtain ⟨k, rfl⟩ := (mem_region h (by omega)).1 hx
          exact iter_lt (fun x hx => h.step_lt hx) k Q (by omega)
      · rw [hfl] at hm ⊢
        rcases List.mem_append.1 hm with hm | hm
        · exact List.mem_append.2 (.inl (r.back x hx hm))
        · refine List.mem_append.2 (.inr ?_)
          obtain ⟨k, hk⟩ := (mem_region h (by omega)).1 hm
          have ho := (h.orb (q := Q) (by omega)).1
          -- x is the place ahead of its step
          cases k with
          | zero =>
            have : stepQ d x = stepQ d (iter (stepQ d) ((regionOf d Q).length - 1) Q) := by
              rw [← iter_succ (stepQ d) _ Q, show (regionOf d Q).length - 1 + 1 = (regionOf d Q).length by have := ho.1; omega, ho.2.1]; exact hk
            have hx2 := h.step_inj hx (iter_lt (fun x hx => h.step_lt hx) _ Q (by omega)) this
            exact (mem_region h (by omega)).2 ⟨_, hx2⟩
          | succ k =>
            rw [iter_succ] at hk
            exact (mem_region h (by omega)).2 ⟨k, h.step_inj hx (iter_lt (fun x hx => h.step_lt hx) k Q (by omega)) hk⟩
      · rw [hfl]
        rcases Nat.lt_or_ge q Q with h1 | h1
        · exact List.mem_append.2 (.inl (r.all q h1))
        · obtain rfl : q = Q := by omega
          exact List.mem_append.2 (.inr ((mem_region h (by omega)).2 ⟨0, rfl⟩))
theorem regs_flat_len {d : Dia} (h : SoundP d) : (regsOf d).flatten.length = 4 * d.cross.length := by
  have r := regOk h (4 * d.cross.length) (Nat.le_refl _)
  have h1 := List.Nodup.length_le_of_subset r.nodup (l₂ := List.range (4 * d.cross.length)) (fun x hx => List.mem_range.2 (r.lt x hx))
  have h2 := List.Nodup.length_le_of_subset (List.nodup_range (n := 4 * d.cross.length)) (l₂ := (regsTo d (4 * d.cross.length)).flatten) (fun x hx => r.all x (List.mem_range.1 hx))
  rw [List.length_range] at h1 h2
  show (regsTo d (4 * d.cross.length)).flatten.length = _
  omega
def lenTo (rs : List (Value × List Nat)) (i : Nat) : Nat := ((rs.take i).map fun a => a.2.length).sum
theorem lenTo_succ {rs : List (Value × List Nat)} {i : Nat} {a : Value × List Nat} (h : rs[i]? = some a) : lenTo rs (i + 1) = lenTo rs i + a.2.length := by
  simp only [lenTo, List.take_add_one, h, Option.toList_some, List.map_append, List.sum_append]; simp
theorem lenTo_all {d : Dia} (h : SoundP d) {rs : List (Value × List Nat)} (hr : rs.map Prod.snd = regsOf d) : lenTo rs rs.length = 4 * d.cross.length := by
  rw [← regs_flat_len h, lenTo, List.take_length, List.length_flatten, ← hr, List.map_map]; rfl
theorem lenTo_le {d : Dia} {rs : List (Value × List Nat)} (hr : ∀ a ∈ rs, a.2.length ≤ 4 * d.cross.length) : ∀ i, lenTo rs i ≤ 4 * d.cross.length * i := by
  intro i
  induction i with
  | zero => simp [lenTo]
  | succ i ih =>
    rcases Nat.lt_or_ge i rs.length with hi | hi
    · obtain ⟨a, ha⟩ := get_of_lt hi
      have := hr a (List.mem_of_getElem? ha)
      rw [lenTo_succ ha, Nat.mul_succ]; omega
    · have e : lenTo rs (i + 1) = lenTo rs i := by simp only [lenTo]; rw [List.take_of_length_le (by omega), List.take_of_length_le hi]
      rw [e, Nat.mul_succ]; omega
end Go.V
