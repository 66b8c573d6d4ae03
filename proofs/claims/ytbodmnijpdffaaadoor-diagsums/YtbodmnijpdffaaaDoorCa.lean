/- A diagram as an argument: opened. -/
import Derived.Test.YtbodmnijpdffaaaDoorDh
import Derived.Test.YtbodmnijpdffaaaDoorProg
import Derived.KernelRfl
import Derived.ProofKit
import Derived.OpenShut
namespace Go.Proofs
open Go Go.V Go.ChangeShapes Go.WideShapes
set_option maxRecDepth 20000
section
variable {H : Type} {enc : TypeId × Value → H} {w : World} {base : Nat} {sp : Nat → Bool} {held : Bool}
theorem in64_of_wf {n : Int} (h : (Lit.int .i64 n).wf = true) : In64 n := by
  simp [Lit.wf, IntKind.min, IntKind.max, IntKind.bits, IntKind.signed] at h
  exact ⟨by omega, by omega⟩
theorem some_of_len {α : Type} {xs : List α} {n i : Nat} (h : xs.length = n) (hi : i < n) : ∃ y, xs[i]? = some y := ⟨xs[i]'(by omega), by simp⟩
theorem open_int3 {n : Nat} {cs : List Value} {y : DataW H × List MemPlace} (h : DataW.trod enc Tryd.prog w base sp held n 3 cs = some y) : ∃ k : Int, cs = [iv k] ∧ In64 k := by
  obtain ⟨k, e, _, hw⟩ := DataW.trod_int Tryd.underlying3 h
  exact ⟨k, e, in64_of_wf hw⟩
theorem open_cr {n : Nat} {cs : List Value} {x : DataW H × List MemPlace} (h : DataW.trod enc Tryd.prog w base sp held n 69 cs = some x) : ∃ c : Cr, cs = encCr c ∧ c.Wf := by
  have c69 : Tryd.prog.cellsOf 69 = 5 := by kernel_rfl
  have c67 : Tryd.prog.cellsOf 67 = 4 := by kernel_rfl
  have c3 : Tryd.prog.cellsOf 3 = 1 := by kernel_rfl
  obtain ⟨xs, m, _, _, hl, hxl, hf⟩ := DataW.trod_struct Tryd.underlying69 h
  rw [c69] at hl
  match cs, hl with
  | [v0, v1, v2, v3, v4], _ =>
    have f0 : DataW.trod enc Tryd.prog w base sp held m 67 (([v0, v1, v2, v3, v4].drop 0).take (Tryd.prog.cellsOf 67)) = xs[0]? := hf 0 _ rfl
    have f1 : DataW.trod enc Tryd.prog w base sp held m 3 (([v0, v1, v2, v3, v4].drop 4).take (Tryd.prog.cellsOf 3)) = xs[1]? := hf 1 _ rfl
    obtain ⟨y0, e0⟩ := some_of_len hxl (i := 0) (by decide)
    obtain ⟨y1, e1⟩ := some_of_len hxl (i := 1) (by decide)
    rw [e0] at f0; rw [e1] at f1
    rw [c67] at f0
    rw [c3] at f1
    change DataW.trod enc Tryd.prog w base sp held m 67 [v0, v1, v2, v3] = some y0 at f0
    change DataW.trod enc Tryd.prog w base sp held m 3 [v4] = some y1 at f1
    obtain ⟨k4, g4, w4⟩ := open_int3 f1
    obtain ⟨zs, m2, _, _, _, hzl, hz⟩ := DataW.trod_array Tryd.underlying67 f0
    have z0 := hz 0 (by decide); have z1 := hz 1 (by decide); have z2 := hz 2 (by decide); have z3 := hz 3 (by decide)
    obtain ⟨u0, q0⟩ := some_of_len hzl (i := 0) (by decide)
    obtain ⟨u1, q1⟩ := some_of_len hzl (i := 1) (by decide)
    obtain ⟨u2, q2⟩ := some_of_len hzl (i := 2) (by decide)
    obtain ⟨u3, q3⟩ := some_of_len hzl (i := 3) (by decide)
    rw [q0] at z0; rw [q1] at z1; rw [q2] at z2; rw [q3] at z3
    rw [c3] at z0 z1 z2 z3
    change DataW.trod enc Tryd.prog w base sp held m2 3 [v0] = some u0 at z0
    change DataW.trod enc Tryd.prog w base sp held m2 3 [v1] = some u1 at z1
    change DataW.trod enc Tryd.prog w base sp held m2 3 [v2] = some u2 at z2
    change DataW.trod enc Tryd.prog w base sp held m2 3 [v3] = some u3 at z3
    obtain ⟨k0, g0, w0⟩ := open_int3 z0
    obtain ⟨k1, g1, w1⟩ := open_int3 z1
    obtain ⟨k2, g2, w2⟩ := open_int3 z2
    obtain ⟨k3, g3, w3⟩ := open_int3 z3
    simp at g0 g1 g2 g3 g4
    subst g0; subst g1; subst g2; subst g3; subst g4
    exact ⟨⟨k0, k1, k2, k3, k4⟩, rfl, ⟨w0, w1, w2, w3, w4⟩⟩
/-- The diagram that an argument is. -/
theorem open_dia {r : Reach} {b0 : Nat} {v : Value} {x : DataW H} {ps : List MemPlace} (hv : Value.okWide Tryd.prog w r b0 24 v) (h : DataW.Trod enc Tryd.prog w base sp held 24 v x ps) : ∃ bs A cap d, v = diaV bs cap d ∧ DiaAt w bs A d := by
  have c24 : Tryd.prog.cellsOf 24 = 2 := by kernel_rfl
  have c22 : Tryd.prog.cellsOf 22 = 1 := by kernel_rfl
  have c3 : Tryd.prog.cellsOf 3 = 1 := by kernel_rfl
  have c69 : Tryd.prog.cellsOf 69 = 5 := by kernel_rfl
  obtain ⟨cs, rfl, hsz⟩ := okWide_struct Tryd.underlying24 hv
  obtain ⟨l⟩ := cs
  obtain ⟨fuel, h⟩ := h
  change DataW.trod enc Tryd.prog w base sp held fuel 24 l = _ at h
  obtain ⟨xs, m, _, _, hl, hxl, hf⟩ := DataW.trod_struct Tryd.underlying24 h
  rw [c24] at hl
  match l, hl with
  | [v0, v1], _ =>
    have f0 : DataW.trod enc Tryd.prog w base sp held m 22 (([v0, v1].drop 0).take (Tryd.prog.cellsOf 22)) = xs[0]? := hf 0 _ rfl
    have f1 : DataW.trod enc Tryd.prog w base sp held m 3 (([v0, v1].drop 1).take (Tryd.prog.cellsOf 3)) = xs[1]? := hf 1 _ rfl
    obtain ⟨y0, e0⟩ := some_of_len hxl (i := 0) (by decide)
    obtain ⟨y1, e1⟩ := some_of_len hxl (i := 1) (by decide)
    rw [e0] at f0; rw [e1] at f1
    rw [c22] at f0
    rw [c3] at f1
    change DataW.trod enc Tryd.prog w base sp held m 22 [v0] = some y0 at f0
    change DataW.trod enc Tryd.prog w base sp held m 3 [v1] = some y1 at f1
    obtain ⟨k, g1, wk⟩ := open_int3 f1
    simp at g1
    subst g1
    rcases DataW.trod_slice Tryd.underlying22 f0 with ⟨e, _⟩ | ⟨a, len, cap, elems, rest, n, _, e, _, _, hlc, hcm, hel, hget, _⟩
    · simp at e
      subst e
      exact ⟨none, ⟨0, 0, none⟩, 0, ⟨[], k⟩, rfl, ⟨fun h => absurd h (Nat.lt_irrefl 0), fun i x hi => by simp at hi, Nat.zero_le _, fun x hx => (by cases hx), wk⟩⟩
    · simp at e
      subst e
      have hcr : ∀ i, i < len → ∃ c : Cr, c.Wf ∧ Cells w (a.add (i * 5)) (encCr c) := by
        intro i hi
        have hg := hget i hi
        obtain ⟨y, hy⟩ := some_of_len hel hi
        rw [hy, c69] at hg
        obtain ⟨cs', h1, h2⟩ := Option.bind_eq_some_iff.1 hg
        obtain ⟨c, rfl, hw⟩ := open_cr h2
        obtain ⟨_, hcl, hat⟩ := World.cells?_some h1
        exact ⟨c, hw, fun j u hj => by
          have hj5 : j < 5 := by have := (List.getElem?_eq_some_iff.1 hj).1; simpa [encCr] using this
          rw [hat j hj5, hj]⟩
      obtain ⟨f, hf2⟩ := Classical.axiomOfChoice (r := fun (i : Nat) (c : Cr) => i < len → c.Wf ∧ Cells w (a.add (i * 5)) (encCr c)) fun i => by
        by_cases hi : i < len
        · obtain ⟨c, hc⟩ := hcr i hi; exact ⟨c, fun _ => hc⟩
        · exact ⟨⟨0, 0, 0, 0, 0⟩, fun h => absurd h hi⟩
      have hll : ((List.range len).map f).length = len := by simp
      refine ⟨some a, a, cap, ⟨(List.range len).map f, k⟩, by simp [diaV], ⟨fun _ => rfl, fun i x hi => ?_, ?_, fun x hx => ?_, wk⟩⟩
      · have hil : i < len := by have := (List.getElem?_eq_some_iff.1 hi).1; simpa using this
        simp [hil] at hi
        subst hi
        exact (hf2 i hil).2
      · show ((List.range len).map f).length ≤ _
        rw [hll]; have : maxLen = 9223372036854775807 := rfl; omega
      · obtain ⟨i, hi, rfl⟩ := List.mem_map.1 hx
        exact (hf2 i (List.mem_range.1 hi)).1
end
end Go.Proofs
/- A list of numbers as an argument: opened. -/
namespace Go.Proofs
open Go Go.V Go.ChangeShapes Go.WideShapes
set_option maxRecDepth 20000
section
variable {H : Type} {enc : TypeId × Value → H} {w : World} {base : Nat} {sp : Nat → Bool} {held : Bool}
theorem open_num {r : Reach} {b0 : Nat} {v : Value} {x : DataW H} {ps : List MemPlace} (hv : Value.okWide Tryd.prog w r b0 3 v) (h : DataW.Trod enc Tryd.prog w base sp held 3 v x ps) : ∃ k : Int, v = iv k ∧ In64 k := by
  obtain ⟨n, e, _, _, hw⟩ := open_int Tryd.underlying3 hv h
  exact ⟨n, e, in64_of_wf hw⟩
theorem open_lis {r : Reach} {b0 : Nat} {v : Value} {x : DataW H} {ps : List MemPlace} (hv : Value.okWide Tryd.prog w r b0 28 v) (h : DataW.Trod enc Tryd.prog w base sp held 28 v x ps) : ∃ bs A cap xs, v = lisV bs cap xs ∧ IntsAt w bs A cap xs := by
  have c3 : Tryd.prog.cellsOf 3 = 1 := by kernel_rfl
  obtain ⟨bs, len, cap, rfl⟩ := okWide_slice Tryd.underlying28 hv
  obtain ⟨fuel, h⟩ := h
  change DataW.trod enc Tryd.prog w base sp held fuel 28 [.slice bs len cap] = _ at h
  rcases DataW.trod_slice Tryd.underlying28 h with ⟨e, _⟩ | ⟨a, len, cap, elems, rest, n, _, e, _, _, hlc, hcm, hel, hget, _⟩
  · simp at e
    obtain ⟨rfl, rfl, rfl⟩ := e
    exact ⟨none, ⟨0, 0, none⟩, 0, [], rfl, ⟨fun h => absurd h (Nat.lt_irrefl 0), fun j v hj => by simp [ints] at hj, Nat.zero_le _, Nat.zero_le _⟩⟩
  · simp at e
    obtain ⟨rfl, rfl, rfl⟩ := e
    have hcr : ∀ i, i < len → ∃ k : Int, w.cell? (a.add i) = some (iv k) := by
      intro i hi
      have hg := hget i hi
      obtain ⟨y, hy⟩ := some_of_len hel hi
      rw [hy, c3] at hg
      obtain ⟨cs', h1, h2⟩ := Option.bind_eq_some_iff.1 hg
      obtain ⟨k, rfl, _⟩ := open_int3 h2
      obtain ⟨_, hcl, hat⟩ := World.cells?_some h1
      have := hat 0 (by decide)
      rw [Nat.mul_one] at this
      exact ⟨k, by simpa [Addr.add] using this⟩
    obtain ⟨f, hf⟩ := Classical.axiomOfChoice (r := fun (i : Nat) (k : Int) => i < len → w.cell? (a.add i) = some (iv k)) fun i => by
      by_cases hi : i < len
      · obtain ⟨k, hk⟩ := hcr i hi; exact ⟨k, fun _ => hk⟩
      · exact ⟨0, fun h => absurd h hi⟩
    refine ⟨some a, a, cap, (List.range len).map f, by simp [lisV], ⟨fun _ => rfl, fun j v hj => ?_, by simpa using hlc, by have : maxLen = 9223372036854775807 := rfl; omega⟩⟩
    have hjl : j < len := by have := (List.getElem?_eq_some_iff.1 hj).1; simpa [ints] using this
    simp [ints, ints.iv', hjl] at hj
    rw [hf j hjl]; exact congrArg some hj
end
end Go.Proofs
