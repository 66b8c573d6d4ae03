/- The tied card of DiagCanons: for every input, valid or not, the statement's function returns true and changes nothing. No condition. -/
import Derived.Test.YtbodmnijpdffaaaGreatDoorM7
import Derived.Test.YtbodmnijpdffaaaGreatDoorTie
import Derived.Test.YtbodmnijpdffaaaGreatDoorCards
namespace Go.Proofs.YtbodmnijpdffaaaGreatDoor
open Go
theorem diagCanons_card : Rows.DiagCanonsCardSaid :=
  Claim7.holds_tied_plain_at .later [] [.data, .data, .data] true (true, "70e7a238950354453d82c66c793135a1d2e3a5b854d74c8b52ea4e1f998ed73b") true
    diagCanons_holds (fun _ h => by cases h) (by kernel_rfl) (fun _ h => by cases h) diagCanons_row_tie rfl ⟨rfl, rfl⟩ (by kernel_rfl) rfl
    (fun f fn hf hfn => by
      obtain rfl : f = 4 := Option.some.inj ((show Tryz.prog.funcNamed "sphenoid/sphenoidlaw22.DiagCanons" = some 4 by kernel_rfl).symm.trans hf) |>.symm
      obtain rfl : fn = Tryz.f4 := (Option.some.inj (Tryz.func4.symm.trans hfn)).symm
      exact ⟨by kernel_rfl, fun j t ht => by
        rw [Tryz.params4] at ht
        have hm : t ∈ [24, 36, 36] := by simpa using Array.mem_of_getElem? ht
        have hall : ([24, 36, 36].all fun u => !Tryz.prog.wantsStandIn u) = true := by kernel_rfl
        exact (show Tryz.prog.wantsStandIn t = false by simpa using List.all_eq_true.1 hall t hm)⟩)
    (by kernel_rfl)
end Go.Proofs.YtbodmnijpdffaaaGreatDoor
