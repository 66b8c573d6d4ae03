/- Diagrams as data, part e: the map of places that the program has met. -/
import Derived.Test.YtbodmnijpdffaaaDoorDa
namespace Go.V
open Go
def keyE (q : Nat) : Int × Int := (((q / 4 : Nat) : Int), ((q % 4 : Nat) : Int))
theorem keyE_inj {q q' : Nat} : keyE q = keyE q' ↔ q = q' := by
  simp only [keyE, Prod.mk.injEq]; omega
def addTo (f : Nat → Nat) (l : List ((Int × Int) × Value)) (q0 j : Nat) : List ((Int × Int) × Value) := (List.range j).foldl (fun l k => mput l (keyE (iter f k q0)) (.bool true)) l
theorem addTo_succ (f : Nat → Nat) (l : List ((Int × Int) × Value)) (q0 j : Nat) : addTo f l q0 (j + 1) = mput (addTo f l q0 j) (keyE (iter f j q0)) (.bool true) := by simp [addTo, List.range_succ]
theorem mget_addTo (f : Nat → Nat) (l : List ((Int × Int) × Value)) (q0 j q : Nat) : mget (addTo f l q0 j) (keyE q) = if ((List.range j).map fun k => iter f k q0).contains q then some (.bool true) else mget l (keyE q) := by
  induction j with
  | zero => simp [addTo]
  | succ j ih =>
    rw [addTo_succ, mget_mput, ih, List.range_succ, List.map_append, List.contains_eq_mem, List.contains_eq_mem]
    by_cases h : iter f j q0 = q
    · rw [if_pos (keyE_inj.2 h)]; simp [h]
    · have : ¬ q = iter f j q0 := fun e => h e.symm
      rw [if_neg (fun e => h (keyE_inj.1 e))]; simp [this]
def MetOk (l : List ((Int × Int) × Value)) (rs : List (Value × List Nat)) : Prop := ∀ q, (mget l (keyE q)).getD (.bool false) = .bool (rs.any fun a => a.2.contains q)
theorem MetOk.nil : MetOk [] [] := fun _ => rfl
theorem MetOk.at {l : List ((Int × Int) × Value)} {rs : List (Value × List Nat)} (h : MetOk l rs) {c p : Nat} (hp : p < 4) : (mget l (((c : Nat) : Int), ((p : Nat) : Int))).getD (.bool false) = .bool (rs.any fun a => a.2.contains (4 * c + p)) := by
  have := h (4 * c + p)
  simp only [keyE] at this
  rwa [show (4 * c + p) / 4 = c by omega, show (4 * c + p) % 4 = p by omega] at this
theorem MetOk.push {l : List ((Int × Int) × Value)} {rs : List (Value × List Nat)} (h : MetOk l rs) {d : Dia} {q0 N : Nat} {v : Value} (hr : regionOf d q0 = (List.range N).map fun k => iter (stepQ d) k q0) : MetOk (addTo (stepQ d) l q0 N) (rs ++ [(v, regionOf d q0)]) := fun q => by
  rw [mget_addTo, ← hr, List.any_append]
  have := h q
  by_cases hc : (regionOf d q0).contains q = true
  · rw [if_pos hc]; simp only [List.any_cons, List.any_nil, hc, Bool.or_false, Bool.or_true]; rfl
  · rw [if_neg hc, this]; simp only [Bool.not_eq_true] at hc; simp only [List.any_cons, List.any_nil, hc, Bool.or_false]
theorem regHL_reg {d : Dia} {q N : Nat} {v : Value} (h : regionOf d q = (List.range N).map fun k => iter (stepQ d) k q) : regHL (v, regionOf d q) = HL.own 43 2 v N (((List.range N).map fun k => iter (stepQ d) k q).flatMap encQ) := by
  rw [regHL]; simp only [h, List.length_map, List.length_range]
theorem orb_snoc (f : Nat → Nat) (q0 j : Nat) {a b : Int} (h1 : a = ((iter f j q0 / 4 : Nat) : Int)) (h2 : b = ((iter f j q0 % 4 : Nat) : Int)) : ((List.range j).map fun k => iter f k q0).flatMap encQ ++ [iv a, iv b] = ((List.range (j + 1)).map fun k => iter f k q0).flatMap encQ := by
  rw [List.range_succ, List.map_append, List.map_cons, List.map_nil]; exact flatQ_snoc h1 h2
end Go.V
