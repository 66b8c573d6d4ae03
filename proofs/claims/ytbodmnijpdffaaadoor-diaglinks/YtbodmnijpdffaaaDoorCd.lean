/- A list of numbers as an argument: opened. -/
import Derived.Test.YtbodmnijpdffaaaDoorCa
import Derived.Test.YtbodmnijpdffaaaDoorDl
namespace Go.Proofs
open Go Go.V Go.ChangeShapes Go.WideShapes
set_option maxRecDepth 20000
section
variable {H : Type} {enc : TypeId × Value → H} {w : World} {base : Nat} {sp : Nat → Bool} {held : Bool}
theorem open_num {r : Reach} {b0 : Nat} {v : Value} {x : DataW H} {ps : List MemPlace} (hv : Value.okWide Tryd.prog w r b0 3 v) (h : DataW.Trod enc Tryd.prog w base sp held 3 v x ps) : ∃ k : Int, v = iv k ∧ In64 k := by
  obtain ⟨n, e, _, _, hw⟩ := open_int Tryd.underlying3 hv h
  exact ⟨n, e, in64_of_wf hw⟩
theorem open_lis {r : Reach} {b0 : Nat} {v : Value} {x : DataW H} {ps : List MemPlace} (hv : Value.okWide Tryd.prog w r b0 28 v) (h : DataW.Trod enc Tryd.prog w base sp held 28 v x ps) : ∃ bs A cap xs, v = lisV bs cap xs ∧ IntsAt w bs A cap xs := by
  have c3 : Tryd.prog.cellsOf 3 = 1 := by kernel_rfl
  obtain ⟨bs, len, cap, rfl⟩ := okWide_slice Tryd.underlying28 hv
  obtain ⟨fuel, h⟩ := h
  change DataW.trod enc Tryd.prog w base sp held fuel 28 [.slice bs len cap] = _ at h
  rcases DataW.trod_slice Tryd.underlying28 h with ⟨e, _⟩ | ⟨a, len, cap, elems, rest, n, _, e, _, _, hlc, hcm, hel, hget, _⟩
  · simp at e
    obtain ⟨rfl, rfl, rfl⟩ := e
    exact ⟨none, ⟨0, 0, none⟩, 0, [], rfl, ⟨fun h => absurd h (Nat.lt_irrefl 0), fun j v hj => by simp [ints] at hj, Nat.zero_le _, Nat.zero_le _⟩⟩
  · simp at e
    obtain ⟨rfl, rfl, rfl⟩ := e
    have hcr : ∀ i, i < len → ∃ k : Int, w.cell? (a.add i) = some (iv k) := by
      intro i hi
      have hg := hget i hi
      obtain ⟨y, hy⟩ := some_of_len hel hi
      rw [hy, c3] at hg
      obtain ⟨cs', h1, h2⟩ := Option.bind_eq_some_iff.1 hg
      obtain ⟨k, rfl, _⟩ := open_int3 h2
      obtain ⟨_, hcl, hat⟩ := World.cells?_some h1
      have := hat 0 (by decide)
      rw [Nat.mul_one] at this
      exact ⟨k, by simpa [Addr.add] using this⟩
    obtain ⟨f, hf⟩ := Classical.axiomOfChoice (r := fun (i : Nat) (k : Int) => i < len → w.cell? (a.add i) = some (iv k)) fun i => by
      by_cases hi : i < len
      · obtain ⟨k, hk⟩ := hcr i hi; exact ⟨k, fun _ => hk⟩
      · exact ⟨0, fun h => absurd h hi⟩
    refine ⟨some a, a, cap, (List.range len).map f, by simp [lisV], ⟨fun _ => rfl, fun j v hj => ?_, by simpa using hlc, by have : maxLen = 9223372036854775807 := rfl; omega⟩⟩
    have hjl : j < len := by have := (List.getElem?_eq_some_iff.1 hj).1; simpa [ints] using this
    simp [ints, ints.iv', hjl] at hj
    rw [hf j hjl]; exact congrArg some hj
end
end Go.Proofs
