/- Diagrams as data, part i: texts. -/
import Derived.Test.YtbodmnijpdffaaaDoorDh
import Derived.Test.YtbodmnijpdffaaaDoorVl
import Derived.Lib.Join
import Derived.Lib.ItoaNum
namespace Go.V
open Go
def numS (n : Int) : ByteArray := ⟨(Lib.decDigits n.toNat).toArray⟩
theorem decDigits_len {u : Nat} (h : u < 100) : (Lib.decDigits u).length ≤ 2 := by
  rw [Lib.decDigits]
  split
  · simp
  · rw [Lib.decDigits, dif_pos (by omega)]; simp
theorem numS_size {n : Int} (h0 : 0 ≤ n) (h : n < 100) : (numS n).size ≤ 2 := by
  have := decDigits_len (u := n.toNat) (by omega)
  simpa [numS, ByteArray.size] using this
def sgnS (x : Cr) : ByteArray := if x.s < 0 then ⟨#[45]⟩ else ⟨#[43]⟩
def crTo (x : Cr) : Nat → ByteArray
  | 0 => sgnS x
  | p + 1 => crTo x p ++ (⟨#[32]⟩ ++ numS (x.arc p))
/-- Small numbers. -/
def SmallCr (x : Cr) : Prop := ∀ p, p < 4 → 0 ≤ x.arc p ∧ x.arc p < 100
theorem sgnS_size (x : Cr) : (sgnS x).size = 1 := by rw [sgnS]; split <;> rfl
theorem crTo_size {x : Cr} (h : SmallCr x) : ∀ p, p ≤ 4 → (crTo x p).size ≤ 1 + 3 * p
  | 0, _ => by rw [crTo, sgnS_size]; omega
  | p + 1, hp => by
    have h1 := crTo_size h p (by omega)
    have h2 := numS_size (h p (by omega)).1 (h p (by omega)).2
    rw [crTo, ByteArray.size_append, ByteArray.size_append, show (⟨#[32]⟩ : ByteArray).size = 1 from rfl]; omega
def crS (x : Cr) : ByteArray := crTo x 4
def semiS : ByteArray := ⟨#[59, 32]⟩
def barS : ByteArray := ⟨#[32, 124, 32]⟩
def joinS (xs : List ByteArray) : ByteArray := ⟨(Lib.join (xs.map (·.data.toList)) semiS.data.toList).toArray⟩
def textOf (d : Dia) : ByteArray := if d.cross.length = 0 then numS d.loops else joinS (d.cross.map crS) ++ barS ++ numS d.loops
def strs (l : List ByteArray) : List Value := l.map Value.string
theorem strs_snoc (l : List ByteArray) (s : ByteArray) : strs l ++ [.string s] = strs (l ++ [s]) := by simp [strs]
theorem lens_le {k : Nat} : ∀ {l : List ByteArray}, (∀ s ∈ l, s.size ≤ k) → Lib.lens (l.map (·.data.toList)) ≤ k * l.length
  | [], _ => Nat.zero_le _
  | s :: r, h => by
    have h1 := lens_le (l := r) (fun x hx => h x (List.mem_cons_of_mem _ hx))
    have h2 := h s (List.mem_cons_self ..)
    have h3 : s.data.toList.length = s.size := Array.length_toList
    simp only [Lib.lens, List.map_cons, List.sum_cons, List.length_cons, h3] at h1 ⊢
    rw [Nat.mul_add]; omega
theorem join_len {k : Nat} {l : List ByteArray} (h : ∀ s ∈ l, s.size ≤ k) : (Lib.join (l.map (·.data.toList)) semiS.data.toList).length ≤ (k + 2) * l.length := by
  cases l with
  | nil => exact Nat.zero_le _
  | cons s r =>
    have h1 := lens_le h
    rw [List.map_cons] at h1 ⊢
    rw [Lib.join_length]
    have : semiS.data.toList.length = 2 := rfl
    rw [this]
    simp only [List.length_map, List.length_cons] at h1 ⊢
    rw [Nat.add_mul]; omega
theorem joinS_size {k : Nat} {l : List ByteArray} (h : ∀ s ∈ l, s.size ≤ k) : (joinS l).size ≤ (k + 2) * l.length := by
  have := join_len h
  simpa [joinS, ByteArray.size] using this
theorem crS_take {d : Dia} (h : ∀ x ∈ d.cross, SmallCr x) : ∀ s ∈ d.cross.map crS, s.size ≤ 13 := fun s hs => by
  obtain ⟨x, hx, rfl⟩ := List.mem_map.1 hs
  exact crTo_size (h x hx) 4 (by omega)
end Go.V
