/- The proof layer, part l: strings. -/
import Derived.Test.YtbodmnijpdffaaaDoorVk
namespace Go.V
open Go
section str
variable {C : Cx} {F : Fr} {L : List HL} {o : Oper}
theorem eqGuard_str (op : BinOp) (t : TypeId) (x y : Operand) (s u : ByteArray) : eqGuard op t x y (.string s) (.string u) = pure () := by
  cases op <;> rfl
theorem Still.cat {xt yt : TypeId} {x y : Operand} {s u : ByteArray} (ho : o.op = .binOp .add xt x y yt) (hx : F.ev x = some (.string s)) (hy : F.ev y = some (.string u)) (hl : s.size + u.size ≤ 9223372036854775807) : Still C o F L (.string (s ++ u)) :=
  ⟨fun c h => (by rw [ho] at h; cases h), fun a w ok => by
    have h : ¬ (((s.size + u.size : Nat) : Int) > IntKind.i64.max) := by simp [IntKind.max, IntKind.bits, IntKind.signed]; omega
    simp only [execOp, ho, ok.fr.ev hx, ok.fr.ev hy, eqGuard_str]
    simp [binOp, Op.stringOp]; omega⟩
theorem Still.eqlStr {xt yt : TypeId} {x y : Operand} {s u : ByteArray} (ho : o.op = .binOp .eql xt x y yt) (hx : F.ev x = some (.string s)) (hy : F.ev y = some (.string u)) : Still C o F L (.bool (s.toList == u.toList)) :=
  ⟨fun c h => (by rw [ho] at h; cases h), fun a w ok => by
    simp only [execOp, ho, ok.fr.ev hx, ok.fr.ev hy, eqGuard_str]
    simp [binOp, Op.stringOp]⟩
/-- A string that is known. -/
theorem Still.eqlStrT {xt yt : TypeId} {x y : Operand} {s u : ByteArray} (ho : o.op = .binOp .eql xt x y yt) (hx : F.ev x = some (.string s)) (hy : F.ev y = some (.string u)) (he : s = u) : Still C o F L (.bool true) := by
  have := Still.eqlStr (C := C) (L := L) ho hx hy
  rwa [he, beq_self_eq_true] at this
/-- 's[:i]'. -/
theorem Still.sliceTo {t e : TypeId} {x y : Operand} {base : Option Addr} {n cap i size : Nat} {k : IntKind} (ho : o.op = .slice t x none (some y) none) (hx : F.ev x = some (.slice base n cap)) (hy : F.ev y = some (.int k (i : Int))) (ht : C.P.underlying t = some (.slice e)) (hz : ∀ w, (sizeOf e).run C.P w = .ok size w)
    (hi : i ≤ cap) : Still C o F L (.slice base i cap) :=
  ⟨fun c h => (by rw [ho] at h; cases h), fun a w ok => by
    have e0 : ∀ A : Addr, A.add 0 = A := fun A => by simp [Addr.add]
    simp only [execOp, ho, ok.fr.ev hx, Option.map, ok.fr.ev hy]
    by_cases h0 : cap = 0
    · obtain rfl : i = 0 := by omega
      cases base <;> simp [Instr.sliceAt, Instr.slice, run_underlying ht, Instr.sliceBounds, Instr.sliceBound, asIntOf, hz, e0, h0]
    · cases base <;> simp [Instr.sliceAt, Instr.slice, run_underlying ht, Instr.sliceBounds, Instr.sliceBound, asIntOf, hz, hi, e0]⟩
end str
end Go.V
