/- Lists of components, marked. -/
import Derived.Test.YtbodmnijpdffaaaDoorDl
import Derived.Test.YtbodmnijpdffaaaDoorDk
namespace Go.V
open Go
def markB (xs : List Int) (N i : Nat) : List Bool := (List.range N).map fun k : Nat => decide ((k : Int) ∈ xs.take i)
theorem markB_len (xs : List Int) (N i : Nat) : (markB xs N i).length = N := by simp [markB]
theorem markB_get {xs : List Int} {N i k : Nat} (h : k < N) : (markB xs N i)[k]? = some (decide ((k : Int) ∈ xs.take i)) := by simp [markB, h]
theorem markB_zero (xs : List Int) (N : Nat) : List.replicate N false = markB xs N 0 := by
  apply List.ext_getElem?; intro i
  by_cases h : i < N <;> simp [markB, h]
theorem markB_set {xs : List Int} {N i : Nat} {y : Nat} (hy : xs[i]? = some (y : Int)) : (markB xs N i).set y true = markB xs N (i + 1) := by
  apply List.ext_getElem?; intro k
  rw [List.getElem?_set, markB_len]
  by_cases hk : k < N
  · rw [markB_get hk, markB_get hk]
    by_cases e : y = k
    · subst e; rw [if_pos rfl, if_pos hk, List.take_add_one, hy]; simp
    · have : ¬ ((k : Int) = (y : Int)) := by omega
      rw [if_neg e, List.take_add_one, hy]; simp [this]
  · have hr : (markB xs N (i + 1))[k]? = none := List.getElem?_eq_none (by rw [markB_len]; omega)
    have hl : (markB xs N i)[k]? = none := List.getElem?_eq_none (by rw [markB_len]; omega)
    by_cases e : y = k
    · subst e; rw [if_pos rfl, if_neg (by omega), hr]
    · rw [if_neg e, hl, hr]
theorem comp_range {d : Dia} (_ : SoundP d) {y : Int} (hy : y ∈ compOf d) (h0 : 0 ≤ y) : 0 ≤ y ∧ y < ((compCount d + d.loops.toNat : Nat) : Int) := by
  have := compTo_lt _ _ _ y hy
  rw [← compCount] at this
  exact ⟨h0, by omega⟩
theorem compTo_done (nx : Nat → Nat) (N a : Nat) (ha : a ≤ N) : ∀ i : Nat, i < a → ∃ y, (compTo nx N a).1[i]? = some y ∧ 0 ≤ y := by
  induction a with
  | zero => intro i hi; omega
  | succ a ih =>
    rw [compTo_succ, compStep]
    have hl : a < (compTo nx N a).1.length := by rw [compTo_len]; omega
    split
    · rename_i h0
      intro i hi
      rcases Nat.lt_or_ge i a with h | h
      · exact ih (by omega) i h
      · obtain rfl : i = a := by omega
        exact ⟨_, getD_get hl 0, h0⟩
    · rename_i hn
      intro i hi
      rcases Nat.lt_or_ge i a with h | h
      · obtain ⟨y, hy, h0⟩ := ih (by omega) i h
        exact ⟨y, markC_keep h0 N _ _ i hy, h0⟩
      · obtain rfl : i = a := by omega
        refine ⟨((compTo nx N i).2 : Int), ?_, by omega⟩
        obtain ⟨M, rfl⟩ : ∃ M, N = M + 1 := ⟨N - 1, by omega⟩
        show (markC nx _ (M + 1) _ i)[i]? = _
        rw [markC_go (by omega)]
        refine markC_keep (by omega) M _ _ i ?_
        rw [List.getElem?_set, if_pos rfl, if_pos hl]
theorem comp_nonneg {d : Dia} {y : Int} (hy : y ∈ compOf d) : 0 ≤ y := by
  obtain ⟨i, hi⟩ := List.getElem?_of_mem hy
  have hl := (List.getElem?_eq_some_iff.1 hi).1
  rw [compOf_len] at hl
  obtain ⟨z, hz, h0⟩ := compTo_done (nextN d) (2 * d.cross.length) (2 * d.cross.length) (Nat.le_refl _) i hl
  rw [show (compTo (nextN d) (2 * d.cross.length) (2 * d.cross.length)).1 = compOf d from rfl, hi] at hz
  cases hz; exact h0
end Go.V
