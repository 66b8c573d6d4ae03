/- The tied card of GlueParts: for every two gluings, valid or not, the statement's function returns true and changes nothing. No condition. -/
import Derived.Test.YtbnfcbmpgjmhmaaGreatDoorM6
import Derived.Test.YtbnfcbmpgjmhmaaGreatDoorTie
import Derived.Test.YtbnfcbmpgjmhmaaGreatDoorCards
namespace Go.Proofs.YtbnfcbmpgjmhmaaGreatDoor
open Go
theorem glueParts_card : Rows.GluePartsCardSaid :=
  Claim7.holds_tied_plain_at .later [] [.data, .data, .data, .data, .sentinel, .sentinel, .pinned] true (true, "4e5397c729cb3721b777706b131da092b8b4c621360773b1dc907e296638ffe9") true
    glueParts_holds (fun _ h => by cases h) (by kernel_rfl) (fun _ h => by cases h) glueParts_row_tie rfl ⟨rfl, rfl⟩ (by kernel_rfl) rfl
    (fun f fn hf hfn => by
      obtain rfl : f = 6 := Option.some.inj ((show Tryz.prog.funcNamed "sphenoid/sphenoidlaw01.GlueParts" = some 6 by kernel_rfl).symm.trans hf) |>.symm
      obtain rfl : fn = Tryz.f6 := (Option.some.inj (Tryz.func6.symm.trans hfn)).symm
      exact ⟨by kernel_rfl, fun j t ht => by
        rw [Tryz.params6] at ht
        have hm : t ∈ [24, 24] := by simpa using Array.mem_of_getElem? ht
        have hall : ([24, 24].all fun u => !Tryz.prog.wantsStandIn u) = true := by kernel_rfl
        exact (show Tryz.prog.wantsStandIn t = false by simpa using List.all_eq_true.1 hall t hm)⟩)
    (by kernel_rfl)
end Go.Proofs.YtbnfcbmpgjmhmaaGreatDoor
