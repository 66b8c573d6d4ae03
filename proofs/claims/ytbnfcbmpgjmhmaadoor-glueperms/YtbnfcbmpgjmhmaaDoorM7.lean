/- The tied card of GluePerms: for all arrays, valid or not, the statement's function returns true and changes nothing. No condition. -/
import Derived.Test.YtbnfcbmpgjmhmaaDoorM4
import Derived.Test.YtbnfcbmpgjmhmaaDoorTie
import Derived.Test.YtbnfcbmpgjmhmaaDoorCards
namespace Go.Proofs.YtbnfcbmpgjmhmaaDoor
open Go
theorem gluePerms_card : Rows.GluePermsCardSaid :=
  Claim7.holds_tied_plain_at .later [] [.data, .data, .data, .data, .sentinel, .sentinel, .pinned] true (true, "bc9358b85b895b9edf3b69c49df470d6bb11479dfd8744d99185df7018955ad3") true
    gluePerms_holds (fun _ h => by cases h) (by kernel_rfl) (fun _ h => by cases h) gluePerms_row_tie rfl ⟨rfl, rfl⟩ (by kernel_rfl) rfl
    (fun f fn hf hfn => by
      obtain rfl : f = 3 := Option.some.inj ((show Tryd.prog.funcNamed "sphenoid/sphenoidlaw01.GluePerms" = some 3 by kernel_rfl).symm.trans hf) |>.symm
      obtain rfl : fn = Tryd.f3 := (Option.some.inj (Tryd.func3.symm.trans hfn)).symm
      exact ⟨by kernel_rfl, fun j t ht => by
        rw [Tryd.params3] at ht
        have hm : t ∈ [23, 23, 23] := by simpa using Array.mem_of_getElem? ht
        have hall : ([23, 23, 23].all fun u => !Tryd.prog.wantsStandIn u) = true := by kernel_rfl
        exact (show Tryd.prog.wantsStandIn t = false by simpa using List.all_eq_true.1 hall t hm)⟩)
    (by kernel_rfl)
end Go.Proofs.YtbnfcbmpgjmhmaaDoor
