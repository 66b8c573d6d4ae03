/- The tied card of DiagSums: for every two diagrams and every two numbers, valid or not, the statement's function returns true and changes nothing. No condition. -/
import Derived.Test.YtbodmnijpdffaaaDoorCk
import Derived.Test.YtbodmnijpdffaaaDoorTie
import Derived.Test.YtbodmnijpdffaaaDoorCards
namespace Go.Proofs.YtbodmnijpdffaaaDoor
open Go
theorem diagSums_card : Rows.DiagSumsCardSaid :=
  Claim7.holds_tied_plain_at .later [] [.data, .data, .data] true (true, "1764b4aed222cb47f4c1fb45409bc0c5b5638fbc05dcd65a46637b2b2cc4e3ae") false
    diagSums_holds (fun _ h => by cases h) (by kernel_rfl) (fun _ h => by cases h) diagSums_row_tie rfl ⟨rfl, rfl⟩ (by kernel_rfl) rfl
    (fun f fn hf hfn => by
      obtain rfl : f = 6 := Option.some.inj ((show Tryd.prog.funcNamed "sphenoid/sphenoidlaw22.DiagSums" = some 6 by kernel_rfl).symm.trans hf) |>.symm
      obtain rfl : fn = Tryd.f6 := (Option.some.inj (Tryd.func6.symm.trans hfn)).symm
      exact ⟨by kernel_rfl, fun j t ht => by
        rw [Tryd.params6] at ht
        have hm : t ∈ [24, 24, 3, 3] := by simpa using Array.mem_of_getElem? ht
        have hall : ([24, 24, 3, 3].all fun u => !Tryd.prog.wantsStandIn u) = true := by kernel_rfl
        exact (show Tryd.prog.wantsStandIn t = false by simpa using List.all_eq_true.1 hall t hm)⟩)
    (by kernel_rfl)
end Go.Proofs.YtbodmnijpdffaaaDoor
