/- The proof layer, part g: rows of slices, empty slices, small lists. -/
import Derived.Test.YtbodmnijpdffaaaDoorVf
namespace Go.V
open Go
section g
variable {C : Cx} {F : Fr} {L : List HL} {o : Oper}
/-- '[]T{}': nothing, but not nil. -/
theorem Grows.empty {t e : TypeId} {size : Nat} {z : Value} (ho : o.op = .buildSlice t 0 #[]) (ht : C.P.underlying t = some (.slice e)) (hz : ∀ w, (sizeOf e).run C.P w = .ok size w) (hzv : ∀ w, (zeroValue e).run C.P w = .ok z w) :
    Grows C o F L (fun _ : Nat => True) (fun b => .slice (some ⟨b, 0, none⟩) 0 0) (fun b => [HL.own e size (.slice (some ⟨b, 0, none⟩) 0 0) 0 []]) := fun a w ok next Q h =>
  Grows.buildSlice (vs := #[]) (cells := #[]) ho rfl ht hz hzv (by omega) (by simp [Instr.fill]) a w ok next Q fun g w' hφ hold hs => h g w' hφ hold (Sym.obj_own (k := size) (n := 0) hs (by simp) (by omega))
end g
theorem Sym.rows_nil {α : Type} {w0 w : World} {S : Nat → Prop} {L : List HL} (mk : α → HL) (hs : Sym w0 S L w) : Sym w0 S (HL.rows mk [] :: L) w := hs.emp
theorem any_take_succ {α : Type} {as : List α} {i : Nat} {a : α} {f : α → Bool} (h : as[i]? = some a) : (as.take (i + 1)).any f = ((as.take i).any f || f a) := by
  rw [List.take_add_one, h, List.any_append]; simp
theorem fst_get {α β : Type} {as : List (α × β)} {i : Nat} {a : α × β} (h : as[i]? = some a) : (as.map Prod.fst)[i * 1]? = some a.1 := by simp [h]
theorem any_snd {α β : Type} {f : β → Bool} (as : List (α × β)) : (as.map Prod.snd).any f = as.any fun a => f a.2 := by rw [List.any_map]; rfl
/-! ### Lists of bools -/
def bools (xs : List Bool) : List Value := xs.map Value.bool
theorem bools_get {xs : List Bool} {m : Nat} {y : Bool} (h : xs[m]? = some y) : (bools xs)[m * 1]? = some (.bool y) := by simp [bools, h]
@[simp] theorem length_bools (xs : List Bool) : (bools xs).length = xs.length := by simp [bools]
theorem bools_set (xs : List Bool) (m : Nat) (y : Bool) : (bools xs).set (m * 1) (.bool y) = bools (xs.set m y) := by simp [bools, List.map_set]
theorem bools_replicate (n : Nat) (y : Bool) : List.replicate n (.bool y) = bools (List.replicate n y) := by simp [bools]
end Go.V
