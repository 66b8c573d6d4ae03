/- The tied card of DiagLinks: for every diagram and every two numbers, valid or not, the statement's function returns true and changes nothing. No condition. -/
import Derived.Test.YtbodmnijpdffaaaDoorCg
import Derived.Test.YtbodmnijpdffaaaDoorTie
import Derived.Test.YtbodmnijpdffaaaDoorCards
namespace Go.Proofs.YtbodmnijpdffaaaDoor
open Go
theorem diagLinks_card : Rows.DiagLinksCardSaid :=
  Claim7.holds_tied_plain_at .later [] [.data, .data, .data] true (true, "1764b4aed222cb47f4c1fb45409bc0c5b5638fbc05dcd65a46637b2b2cc4e3ae") false
    diagLinks_holds (fun _ h => by cases h) (by kernel_rfl) (fun _ h => by cases h) diagLinks_row_tie rfl ⟨rfl, rfl⟩ (by kernel_rfl) rfl
    (fun f fn hf hfn => by
      obtain rfl : f = 5 := Option.some.inj ((show Tryd.prog.funcNamed "sphenoid/sphenoidlaw22.DiagLinks" = some 5 by kernel_rfl).symm.trans hf) |>.symm
      obtain rfl : fn = Tryd.f5 := (Option.some.inj (Tryd.func5.symm.trans hfn)).symm
      exact ⟨by kernel_rfl, fun j t ht => by
        rw [Tryd.params5] at ht
        have hm : t ∈ [24, 3, 3] := by simpa using Array.mem_of_getElem? ht
        have hall : ([24, 3, 3].all fun u => !Tryd.prog.wantsStandIn u) = true := by kernel_rfl
        exact (show Tryd.prog.wantsStandIn t = false by simpa using List.all_eq_true.1 hall t hm)⟩)
    (by kernel_rfl)
end Go.Proofs.YtbodmnijpdffaaaDoor
