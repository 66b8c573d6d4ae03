/- The proof layer, part m: a slot's value in other words, inside a region that draws. -/
import Derived.Test.YtbodmnijpdffaaaDoorVl
namespace Go.V
open Go
theorem RunG.again {C : Cx} {ops : Array Oper} {T : Act → World → Prop} {π : Plan} {F : Fr} {L : List HL} {t : Nat} {v u : Value} (hv : F.get t = some v) (e : v = u) (h : RunG C ops T π ((t, u) :: F) L) : RunG C ops T π F L := fun a w ok => h a w (ok.again hv e)
end Go.V
