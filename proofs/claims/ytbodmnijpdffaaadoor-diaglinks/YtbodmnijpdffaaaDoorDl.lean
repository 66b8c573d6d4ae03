/- Lists of numbers as arguments. -/
import Derived.Test.YtbodmnijpdffaaaDoorDh
import Derived.Test.YtbodmnijpdffaaaDoorVl
namespace Go.V
open Go
abbrev lisV (base : Option Addr) (cap : Nat) (xs : List Int) : Value := .slice base xs.length cap
structure IntsAt (w : World) (base : Option Addr) (A : Addr) (cap : Nat) (xs : List Int) : Prop where
  base : 0 < xs.length → base = some A
  cell : Cells w A (ints xs)
  le : xs.length ≤ cap
  len : cap ≤ 9223372036854775807
theorem IntsAt.old {w w' : World} {base : Option Addr} {A : Addr} {cap : Nat} {xs : List Int} (h : IntsAt w base A cap xs) (ho : Old Nil w w') : IntsAt w' base A cap xs := ⟨h.base, fun j v hj => ho.cell (h.cell j v hj) (fun x => x), h.le, h.len⟩
theorem IntsAt.sym {w w' : World} {L : List HL} {base : Option Addr} {A : Addr} {cap : Nat} {xs : List Int} (h : IntsAt w base A cap xs) (hs : Sym w Nil L w') : IntsAt w' base A cap xs := h.old hs.old
theorem IntsAt.shape {w : World} {base : Option Addr} {A : Addr} {cap : Nat} {xs : List Int} (h : IntsAt w base A cap xs) : Shape (lisV base cap xs) xs.length := shape_slice h.base
theorem IntsAt.cells {w : World} {base : Option Addr} {A : Addr} {cap : Nat} {xs : List Int} (h : IntsAt w base A cap xs) (n : Nat) : Cells w (vaddr (.slice base n cap)) (ints xs) := by
  rcases Nat.eq_zero_or_pos xs.length with h0 | h0
  · rw [List.length_eq_zero_iff.1 h0]; exact fun j v hj => by simp [ints] at hj
  · rw [h.base h0]; exact h.cell
theorem IntsAt.pre {w : World} {base : Option Addr} {A : Addr} {cap : Nat} {xs : List Int} (h : IntsAt w base A cap xs) {i : Nat} (hi : i ≤ xs.length) : Shape (.slice base i cap) (xs.take i).length ∧ Cells w (vaddr (.slice base i cap)) (ints (xs.take i)) := by
  have hl : (xs.take i).length = i := by simp; omega
  rw [hl]
  refine ⟨shape_slice (A := A) fun h0 => h.base (by omega), fun j v hj => h.cells i j v ?_⟩
  simp only [ints, List.getElem?_map, List.getElem?_take] at hj ⊢
  split at hj
  · exact hj
  · simp at hj
def distB (xs : List Int) (n : Int) : Bool := decide (xs.Nodup ∧ ∀ x ∈ xs, 0 ≤ x ∧ x < n)
theorem nodup_take_succ {xs : List Int} {i : Nat} {y : Int} (hy : xs[i]? = some y) (h : (xs.take i).Nodup) (hn : y ∉ xs.take i) : (xs.take (i + 1)).Nodup := by
  rw [List.take_add_one, hy]
  simp only [Option.toList_some]
  rw [List.nodup_append]
  refine ⟨h, by simp, fun a ha b hb e => ?_⟩
  rw [List.mem_singleton.1 hb] at e
  exact hn (e ▸ ha)
theorem not_nodup {xs : List Int} {i : Nat} {y : Int} (hy : xs[i]? = some y) (hm : y ∈ xs.take i) : ¬ xs.Nodup := fun h => by
  obtain ⟨j, hj⟩ := List.getElem?_of_mem hm
  have hji : j < i := by have := (List.getElem?_eq_some_iff.1 hj).1; simp at this; omega
  rw [List.getElem?_take_of_lt hji] at hj
  obtain ⟨h1, e1⟩ := List.getElem?_eq_some_iff.1 hj
  obtain ⟨h2, e2⟩ := List.getElem?_eq_some_iff.1 hy
  exact (List.pairwise_iff_getElem.1 (List.nodup_iff_pairwise_ne.1 h)) j i h1 h2 hji (e1.trans e2.symm)
/-! ### Reversal -/
def revB (lo hi : Bool) (x : Cr) : Cr := ⟨if lo then x.a2 else x.a0, if lo then x.a3 else x.a1, if lo then x.a0 else x.a2, if lo then x.a1 else x.a3, if lo == hi then x.s else -x.s⟩
def revCr (of comps : List Int) (x : Cr) : Cr := revB (decide (of.getD x.a0.toNat 0 ∈ comps)) (decide (of.getD x.a1.toNat 0 ∈ comps)) x
theorem rev_tt {lo hi : Bool} {x : Cr} (h : lo = true) (k : (!(lo == hi)) = true) : [iv x.a2, iv x.a3, iv x.a0, iv x.a1, iv (-x.s)] = encCr (revB lo hi x) := by subst h; cases hi <;> simp_all [revB, encCr]
theorem rev_tf {lo hi : Bool} {x : Cr} (h : lo = true) (k : (!(lo == hi)) = false) : [iv x.a2, iv x.a3, iv x.a0, iv x.a1, iv x.s] = encCr (revB lo hi x) := by subst h; cases hi <;> simp_all [revB, encCr]
theorem rev_ft {lo hi : Bool} {x : Cr} (h : lo = false) (k : (!(lo == hi)) = true) : [iv x.a0, iv x.a1, iv x.a2, iv x.a3, iv (-x.s)] = encCr (revB lo hi x) := by subst h; cases hi <;> simp_all [revB, encCr]
theorem rev_ff {lo hi : Bool} {x : Cr} (h : lo = false) (k : (!(lo == hi)) = false) : [iv x.a0, iv x.a1, iv x.a2, iv x.a3, iv x.s] = encCr (revB lo hi x) := by subst h; cases hi <;> simp_all [revB, encCr]
end Go.V
