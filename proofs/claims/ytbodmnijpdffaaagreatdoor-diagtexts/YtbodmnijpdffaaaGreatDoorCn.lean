/- The tied card of DiagTexts: for every two diagrams and every string, valid or not, the statement's function returns true and changes nothing. No condition. -/
import Derived.Test.YtbodmnijpdffaaaGreatDoorZj
import Derived.Test.YtbodmnijpdffaaaGreatDoorTie
import Derived.Test.YtbodmnijpdffaaaGreatDoorCards
namespace Go.Proofs.YtbodmnijpdffaaaGreatDoor
open Go
theorem diagTexts_card : Rows.DiagTextsCardSaid :=
  Claim7.holds_tied_plain_at .later [] [.data, .data, .data, .data, .sentinel, .sentinel, .pinned] true (true, "70e7a238950354453d82c66c793135a1d2e3a5b854d74c8b52ea4e1f998ed73b") true
    diagTexts_holds (fun _ h => by cases h) (by kernel_rfl) (fun _ h => by cases h) diagTexts_row_tie rfl ⟨rfl, rfl⟩ (by kernel_rfl) rfl
    (fun f fn hf hfn => by
      obtain rfl : f = 3 := Option.some.inj ((show Tryz.prog.funcNamed "sphenoid/sphenoidlaw22.DiagTexts" = some 3 by kernel_rfl).symm.trans hf) |>.symm
      obtain rfl : fn = Tryz.f3 := (Option.some.inj (Tryz.func3.symm.trans hfn)).symm
      exact ⟨by kernel_rfl, fun j t ht => by
        rw [Tryz.params3] at ht
        have hm : t ∈ [24, 24, 9] := by simpa using Array.mem_of_getElem? ht
        have hall : ([24, 24, 9].all fun u => !Tryz.prog.wantsStandIn u) = true := by kernel_rfl
        exact (show Tryz.prog.wantsStandIn t = false by simpa using List.all_eq_true.1 hall t hm)⟩)
    (by kernel_rfl)
end Go.Proofs.YtbodmnijpdffaaaGreatDoor
