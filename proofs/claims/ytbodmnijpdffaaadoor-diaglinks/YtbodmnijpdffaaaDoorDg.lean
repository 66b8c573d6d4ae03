/- Diagrams as data, part g: linking numbers. -/
import Derived.Test.YtbodmnijpdffaaaDoorDf
namespace Go.V
open Go
def lowC (of : List Int) (x : Cr) : Int := of.getD x.a0.toNat 0
def upC (of : List Int) (x : Cr) : Int := of.getD x.a1.toNat 0
def linkOne (of : List Int) (i j : Int) (x : Cr) : Int := if lowC of x = i ∧ upC of x = j ∨ lowC of x = j ∧ upC of x = i then x.s else 0
def linkTo (of : List Int) (l : List Cr) (i j : Int) (c : Nat) : Int := ((l.take c).map (linkOne of i j)).sum
def linkSum (d : Dia) (i j : Int) : Int := linkTo (compOf d) d.cross i j d.cross.length
theorem linkTo_succ {of : List Int} {l : List Cr} {i j : Int} {c : Nat} {x : Cr} (hx : l[c]? = some x) : linkTo of l i j (c + 1) = linkTo of l i j c + linkOne of i j x := by
  simp only [linkTo, List.take_add_one, hx, Option.toList_some, List.map_append, List.sum_append]
  simp
theorem linkOne_bound {of : List Int} {i j : Int} {x : Cr} (h : x.s = 1 ∨ x.s = -1) : -1 ≤ linkOne of i j x ∧ linkOne of i j x ≤ 1 := by
  simp only [linkOne]; split <;> omega
theorem linkTo_bound {of : List Int} {l : List Cr} {i j : Int} (h : ∀ x ∈ l, x.s = 1 ∨ x.s = -1) : ∀ c : Nat, -(c : Int) ≤ linkTo of l i j c ∧ linkTo of l i j c ≤ c := by
  intro c
  induction c with
  | zero => simp [linkTo]
  | succ c ih =>
    rcases Nat.lt_or_ge c l.length with hc | hc
    · obtain ⟨x, hx⟩ := get_of_lt hc
      have := linkOne_bound (of := of) (i := i) (j := j) (h x (List.mem_of_getElem? hx))
      rw [linkTo_succ hx]; omega
    · have e : linkTo of l i j (c + 1) = linkTo of l i j c := by simp only [linkTo]; rw [List.take_of_length_le (by omega), List.take_of_length_le hc]
      rw [e]; omega
theorem tdiv2_bound {s : Int} {n : Int} (h : -n ≤ s) (h2 : s ≤ n) (hn : 0 ≤ n) : -n ≤ s.tdiv 2 ∧ s.tdiv 2 ≤ n := by
  rw [Int.tdiv_eq_ediv]
  have : Int.sign 2 = 1 := rfl
  split <;> omega
def LinkBad (d : Dia) (i j : Int) : Prop := i < 0 ∨ j < 0 ∨ (compCount d : Int) + d.loops ≤ i ∨ (compCount d : Int) + d.loops ≤ j ∨ i = j
instance (d : Dia) (i j : Int) : Decidable (LinkBad d i j) := by unfold LinkBad; infer_instance
def linkR (d : Dia) (i j : Int) : Int := if LinkBad d i j then 0 else (linkSum d i j).tdiv 2
def linkE (d : Dia) (i j : Int) : Int := if LinkBad d i j then 1 else 0
end Go.V
