/- The proof layer, part k: comparison of a slice with nil. -/
import Derived.Test.YtbodmnijpdffaaaDoorVj
namespace Go.V
open Go
section nil
variable {C : Cx} {F : Fr} {L : List HL} {o : Oper}
theorem eq_nil {P : Program} {t e : TypeId} (ht : P.underlying t = some (.slice e)) (d : Nat) (a : Option Addr) (n c : Nat) (w : World) : (Op.equalIn (d + 1) t (.slice a n c) (.slice none 0 0)).run P w = .ok a.isNone w := by
  unfold Op.equalIn
  cases a <;> simp [run_underlying ht]
theorem Still.eqlNil {xt yt e : TypeId} {x y : Operand} {a : Option Addr} {n c : Nat} (ho : o.op = .binOp .eql xt x y yt) (hx : F.ev x = some (.slice a n c)) (hy : F.ev y = some (.slice none 0 0)) (ht : C.P.underlying xt = some (.slice e)) : Still C o F L (.bool a.isNone) :=
  ⟨fun c h => (by rw [ho] at h; cases h), fun a w ok => by
    have := eq_nil ht 9999 ‹Option Addr› n c w
    simp only [execOp, ho, ok.fr.ev hx, ok.fr.ev hy]; simp [eqGuard, binOp, Op.equal, Op.maxDepth, this]⟩
theorem Still.build_0 {t : TypeId} (g : Value) (ho : o.op = .build t #[]) (hr : ∀ w, (Instr.build t #[]).run C.P w = .ok g w) : Still C o F L g := Still.build (vs := #[]) ho (by simp) hr
end nil
end Go.V
