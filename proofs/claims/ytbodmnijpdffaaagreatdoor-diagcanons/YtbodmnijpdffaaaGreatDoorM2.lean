/- Contracts of functions of the reference, chapter 22. -/
import Derived.Test.YtbodmnijpdffaaaGreatDoorM0
import Derived.Test.YtbodmnijpdffaaaGreatDoorProg
import Derived.KernelRfl
import Derived.Test.YtbodmnijpdffaaaGreatDoorM1
import Derived.Lib.AtoiAll
import Derived.Lib.Split
namespace Go.Proofs
open Go Go.V
set_option maxRecDepth 20000
theorem ref_In (x : Cr) (p : Nat) (w : World) : Gives Tryz.prog 72 #[crV x, iv p] w Nil (fun _ : Unit => True) (fun _ => .bool (x.inn p)) (fun _ => []) := by
  refine fn_of_run (S := Nil) (args := [crV x, iv p]) (n := 25) (L := []) Tryz.func72 rfl Tryz.ntmps72 (Nat.le_of_ble_eq_true rfl) (Sym.nil _ _) ?_
  change RunC _ _ _ [(0, _), (1, _)] _
  refine RunC.seq ?_
  refine RunC.region ?_
  refine RunL.grows rfl rfl rfl (Grows.box rfl rfl) (fun b2 _ => ?_)
  refine RunL.still rfl rfl rfl (Still.assign rfl rfl) ?_
  refine RunL.nil ?_
  refine Ends.then ?_
  refine RunC.seq ?_
  refine RunC.region ?_
  refine RunL.still rfl rfl rfl (Still.move rfl rfl) ?_
  refine RunL.still rfl rfl rfl (Still.eql rfl rfl rfl) ?_
  refine RunL.still rfl rfl rfl (Still.move rfl rfl) ?_
  refine RunL.split (t := 7) rfl (fun h7 => ?_) (fun h7 => ?_)
  · have h7 := of_decide_eq_true h7
    refine RunL.off rfl rfl rfl ?_
    refine RunL.off rfl rfl rfl ?_
    refine RunL.off rfl rfl rfl ?_
    refine RunL.off rfl rfl rfl ?_
    refine RunL.off rfl rfl rfl ?_
    refine RunL.off rfl rfl rfl ?_
    refine RunL.off rfl rfl rfl ?_
    refine RunL.still rfl rfl rfl (Still.pickT rfl rfl rfl) ?_
    refine RunL.still rfl rfl rfl (Still.move rfl rfl) ?_
    refine RunL.off rfl rfl rfl ?_
    refine RunL.off rfl rfl rfl ?_
    refine RunL.off rfl rfl rfl ?_
    refine RunL.off rfl rfl rfl ?_
    refine RunL.off rfl rfl rfl ?_
    refine RunL.off rfl rfl rfl ?_
    refine RunL.off rfl rfl rfl ?_
    refine RunL.still rfl rfl rfl (Still.pickT rfl rfl rfl) ?_
    refine RunL.still rfl rfl rfl (Still.assign rfl rfl) ?_
    refine RunL.nil ?_
    refine Ends.then ?_
    refine RunC.ret ?_
    refine Ends.leave (.inl rfl) (fun _ _ ok => results1 Tryz.results72 (Holds.tmp rfl) ok) (fun w1 hs => ?_)
    exact Ret.intro () trivial (by first | exact congrArg Value.bool (decide_eq_true (by omega)).symm | exact congrArg Value.bool (decide_eq_false (by omega)).symm | exact congrArg Value.bool (decide_eq_decide.2 (by omega))) (HSub.nil _) hs
  · have h7 := of_decide_eq_false h7
    refine RunL.still rfl rfl rfl (Still.move rfl rfl) ?_
    refine RunL.still rfl rfl rfl (Still.eql rfl rfl rfl) ?_
    refine RunL.still rfl rfl rfl (Still.move rfl rfl) ?_
    refine RunL.split (t := 10) rfl (fun h10 => ?_) (fun h10 => ?_)
    · have h10 := of_decide_eq_true h10
      refine RunL.still rfl rfl rfl (Still.fieldAddrL (off := 0) (off' := 4) rfl rfl Tryz.underlying62 rfl Tryz.sizeOf3 rfl) ?_
      refine RunL.still rfl rfl rfl (Still.load rfl rfl Tryz.isAgg3 (fun _ hs => cell_nth (hs.at (i := 0) rfl) rfl)) ?_
      refine RunL.still rfl rfl rfl (Still.eql rfl rfl rfl) ?_
      refine RunL.still rfl rfl rfl (Still.pickT rfl rfl rfl) ?_
      refine RunL.still rfl rfl rfl (Still.pickF rfl rfl rfl) ?_
      refine RunL.still rfl rfl rfl (Still.move rfl rfl) ?_
      refine RunL.split (t := 16) rfl (fun h16 => ?_) (fun h16 => ?_)
      · have h16 := of_decide_eq_true h16
        refine RunL.off rfl rfl rfl ?_
        refine RunL.off rfl rfl rfl ?_
        refine RunL.off rfl rfl rfl ?_
        refine RunL.off rfl rfl rfl ?_
        refine RunL.off rfl rfl rfl ?_
        refine RunL.off rfl rfl rfl ?_
        refine RunL.off rfl rfl rfl ?_
        refine RunL.still rfl rfl rfl (Still.pickT rfl rfl rfl) ?_
        refine RunL.still rfl rfl rfl (Still.assign rfl rfl) ?_
        refine RunL.nil ?_
        refine Ends.then ?_
        refine RunC.ret ?_
        refine Ends.leave (.inl rfl) (fun _ _ ok => results1 Tryz.results72 (Holds.tmp rfl) ok) (fun w2 hs => ?_)
        exact Ret.intro () trivial (by first | exact congrArg Value.bool (decide_eq_true (by omega)).symm | exact congrArg Value.bool (decide_eq_false (by omega)).symm | exact congrArg Value.bool (decide_eq_decide.2 (by omega))) (HSub.nil _) hs
      · have h16 := of_decide_eq_false h16
        refine RunL.still rfl rfl rfl (Still.move rfl rfl) ?_
        refine RunL.still rfl rfl rfl (Still.eql rfl rfl rfl) ?_
        refine RunL.still rfl rfl rfl (Still.move rfl rfl) ?_
        refine RunL.split (t := 19) rfl (fun h19 => ?_) (fun h19 => ?_)
        · have h19 := of_decide_eq_true h19
          refine RunL.still rfl rfl rfl (Still.fieldAddrL (off := 0) (off' := 4) rfl rfl Tryz.underlying62 rfl Tryz.sizeOf3 rfl) ?_
          refine RunL.still rfl rfl rfl (Still.load rfl rfl Tryz.isAgg3 (fun _ hs => cell_nth (hs.at (i := 0) rfl) rfl)) ?_
          refine RunL.still rfl rfl rfl (Still.eql rfl rfl rfl) ?_
          refine RunL.still rfl rfl rfl (Still.pickT rfl rfl rfl) ?_
          refine RunL.still rfl rfl rfl (Still.pickF rfl rfl rfl) ?_
          refine RunL.still rfl rfl rfl (Still.assign rfl rfl) ?_
          refine RunL.nil ?_
          refine Ends.then ?_
          refine RunC.ret ?_
          refine Ends.leave (.inl rfl) (fun _ _ ok => results1 Tryz.results72 (Holds.tmp rfl) ok) (fun w3 hs => ?_)
          exact Ret.intro () trivial (by first | exact congrArg Value.bool (decide_eq_true (by omega)).symm | exact congrArg Value.bool (decide_eq_false (by omega)).symm | exact congrArg Value.bool (decide_eq_decide.2 (by omega))) (HSub.nil _) hs
        · have h19 := of_decide_eq_false h19
          refine RunL.off rfl rfl rfl ?_
          refine RunL.off rfl rfl rfl ?_
          refine RunL.off rfl rfl rfl ?_
          refine RunL.still rfl rfl rfl (Still.pickF rfl rfl rfl) ?_
          refine RunL.still rfl rfl rfl (Still.pickF rfl rfl rfl) ?_
          refine RunL.still rfl rfl rfl (Still.assign rfl rfl) ?_
          refine RunL.nil ?_
          refine Ends.then ?_
          refine RunC.ret ?_
          refine Ends.leave (.inl rfl) (fun _ _ ok => results1 Tryz.results72 (Holds.tmp rfl) ok) (fun w4 hs => ?_)
          exact Ret.intro () trivial (by first | exact congrArg Value.bool (decide_eq_true (by omega)).symm | exact congrArg Value.bool (decide_eq_false (by omega)).symm | exact congrArg Value.bool (decide_eq_decide.2 (by omega))) (HSub.nil _) hs
    · have h10 := of_decide_eq_false h10
      refine RunL.off rfl rfl rfl ?_
      refine RunL.off rfl rfl rfl ?_
      refine RunL.off rfl rfl rfl ?_
      refine RunL.still rfl rfl rfl (Still.pickF rfl rfl rfl) ?_
      refine RunL.still rfl rfl rfl (Still.pickF rfl rfl rfl) ?_
      refine RunL.still rfl rfl rfl (Still.move rfl rfl) ?_
      refine RunL.still rfl rfl rfl (Still.move rfl rfl) ?_
      refine RunL.still rfl rfl rfl (Still.eql rfl rfl rfl) ?_
      refine RunL.still rfl rfl rfl (Still.move rfl rfl) ?_
      refine RunL.split (t := 19) rfl (fun h19 => ?_) (fun h19 => ?_)
      · have h19 := of_decide_eq_true h19
        refine RunL.still rfl rfl rfl (Still.fieldAddrL (off := 0) (off' := 4) rfl rfl Tryz.underlying62 rfl Tryz.sizeOf3 rfl) ?_
        refine RunL.still rfl rfl rfl (Still.load rfl rfl Tryz.isAgg3 (fun _ hs => cell_nth (hs.at (i := 0) rfl) rfl)) ?_
        refine RunL.still rfl rfl rfl (Still.eql rfl rfl rfl) ?_
        refine RunL.still rfl rfl rfl (Still.pickT rfl rfl rfl) ?_
        refine RunL.still rfl rfl rfl (Still.pickF rfl rfl rfl) ?_
        refine RunL.still rfl rfl rfl (Still.assign rfl rfl) ?_
        refine RunL.nil ?_
        refine Ends.then ?_
        refine RunC.ret ?_
        refine Ends.leave (.inl rfl) (fun _ _ ok => results1 Tryz.results72 (Holds.tmp rfl) ok) (fun w5 hs => ?_)
        exact Ret.intro () trivial (by first | exact congrArg Value.bool (decide_eq_true (by omega)).symm | exact congrArg Value.bool (decide_eq_false (by omega)).symm | exact congrArg Value.bool (decide_eq_decide.2 (by omega))) (HSub.nil _) hs
      · have h19 := of_decide_eq_false h19
        refine RunL.off rfl rfl rfl ?_
        refine RunL.off rfl rfl rfl ?_
        refine RunL.off rfl rfl rfl ?_
        refine RunL.still rfl rfl rfl (Still.pickF rfl rfl rfl) ?_
        refine RunL.still rfl rfl rfl (Still.pickF rfl rfl rfl) ?_
        refine RunL.still rfl rfl rfl (Still.assign rfl rfl) ?_
        refine RunL.nil ?_
        refine Ends.then ?_
        refine RunC.ret ?_
        refine Ends.leave (.inl rfl) (fun _ _ ok => results1 Tryz.results72 (Holds.tmp rfl) ok) (fun w6 hs => ?_)
        exact Ret.intro () trivial (by first | exact congrArg Value.bool (decide_eq_true (by omega)).symm | exact congrArg Value.bool (decide_eq_false (by omega)).symm | exact congrArg Value.bool (decide_eq_decide.2 (by omega))) (HSub.nil _) hs

theorem ref_end (base : Option Addr) (A : Addr) (cap : Nat) (d : Dia) (a : Int) (inn : Bool) (w : World) (hd : DiaAt w base A d) : Gives Tryz.prog 123 #[diaV base cap d, iv a, .bool inn] w Nil (fun _ : Unit => True) (fun _ => endV (findEnd d a inn)) (fun _ => []) := by
  have hlen := hd.len
  refine fn_of_run (S := Nil) (args := [diaV base cap d, iv a, .bool inn]) (n := 45) (L := []) Tryz.func123 rfl Tryz.ntmps123 (Nat.le_of_ble_eq_true rfl) (Sym.nil _ _) ?_
  change RunC _ _ _ [(0, _), (1, _), (2, _)] _
  refine RunC.seq ?_
  refine RunC.region ?_
  refine RunL.grows rfl rfl rfl (Grows.box rfl rfl) (fun b3 _ => ?_)
  refine RunL.grows rfl rfl rfl (Grows.alloc rfl Tryz.zeroValue110) (fun b6 _ => ?_)
  refine RunL.nil ?_
  refine Ends.then ?_
  refine RunC.seq ?_
  refine RunC.seq ?_
  refine RunC.region ?_
  refine RunL.still rfl rfl rfl (Still.assign rfl rfl) ?_
  refine RunL.nil ?_
  refine Ends.then ?_
  refine RunC.block ?_
  refine RunC.loop2 (γ := Nat) (keep := [(1, _), (2, _), (3, _), (6, _)]) (hkeep := [_, _]) (fun c => c ≤ d.cross.length ∧ ∀ q, q < 4 * c → matchAt d a inn q = false) (fun c => d.cross.length - c) (fun c => [(7, iv c)]) (fun c => []) 0 ⟨by omega, fun q hq => by omega⟩ (Fr.Sub.cons rfl (Fr.Sub.nil _)) (Fr.Sub.cons rfl (Fr.Sub.cons rfl (Fr.Sub.cons rfl (Fr.Sub.cons rfl (Fr.Sub.nil _))))) (HSub.pick 0 rfl (HSub.pick 0 rfl (HSub.nil _))) ?_
  rintro c ⟨hc, hM⟩
  refine RunC.seq ?_
  refine RunC.seq ?_
  refine RunC.region ?_
  refine RunL.still rfl rfl rfl (Still.move rfl rfl) ?_
  refine RunL.still rfl rfl rfl (Still.fieldAddrL (off := 0) (off' := 0) rfl rfl Tryz.underlying24 rfl Tryz.sizeOf22 rfl) ?_
  refine RunL.still rfl rfl rfl (Still.load rfl rfl Tryz.isAgg22 (fun _ hs => cell_nth (hs.at (i := 1) rfl) rfl)) ?_
  refine RunL.still rfl rfl rfl (Still.lenSlice rfl rfl Tryz.underlying22) ?_
  refine RunL.still rfl rfl rfl (Still.lss rfl rfl rfl) ?_
  refine RunL.nil ?_
  refine Ends.then ?_
  refine RunC.cond rfl (fun h13 => ?_) (fun h13 => ?_)
  · have h13 := of_decide_eq_true h13
    obtain ⟨x, hx⟩ := get_of_lt (l := d.cross) (i := c) (by omega)
    refine RunC.skip ?_
    refine Ends.then ?_
    refine RunC.seq ?_
    refine RunC.block ?_
    refine RunC.seq ?_
    refine RunC.region ?_
    refine RunL.still rfl rfl rfl (Still.assign rfl rfl) ?_
    refine RunL.nil ?_
    refine Ends.then ?_
    refine RunC.block ?_
    refine RunC.loop2 (γ := Nat) (keep := [(1, _), (2, _), (3, _), (6, _), (7, _)]) (hkeep := [_, _]) (fun p => p ≤ 4 ∧ ∀ q, q < 4 * c + p → matchAt d a inn q = false) (fun p => 4 - p) (fun p => [(8, iv p)]) (fun p => []) 0 ⟨by omega, fun q hq => hM q (by omega)⟩ (Fr.Sub.cons rfl (Fr.Sub.nil _)) (Fr.Sub.cons rfl (Fr.Sub.cons rfl (Fr.Sub.cons rfl (Fr.Sub.cons rfl (Fr.Sub.cons rfl (Fr.Sub.nil _)))))) (HSub.pick 0 rfl (HSub.pick 0 rfl (HSub.nil _))) ?_
    rintro p ⟨hp, hM2⟩
    refine RunC.seq ?_
    refine RunC.seq ?_
    refine RunC.region ?_
    refine RunL.still rfl rfl rfl (Still.move rfl rfl) ?_
    refine RunL.still rfl rfl rfl (Still.lss rfl rfl rfl) ?_
    refine RunL.nil ?_
    refine Ends.then ?_
    refine RunC.cond rfl (fun h17 => ?_) (fun h17 => ?_)
    · have h17 := of_decide_eq_true h17
      have hp4 : p < 4 := by omega
      refine RunC.skip ?_
      refine Ends.then ?_
      refine RunC.seq ?_
      refine RunC.block ?_
      refine RunC.seq ?_
      refine RunC.region ?_
      refine RunL.still rfl rfl rfl (Still.fieldAddrL (off := 0) (off' := 0) rfl rfl Tryz.underlying24 rfl Tryz.sizeOf22 rfl) ?_
      refine RunL.still rfl rfl rfl (Still.load rfl rfl Tryz.isAgg22 (fun _ hs => cell_nth (hs.at (i := 1) rfl) rfl)) ?_
      refine RunL.still rfl rfl rfl (Still.move rfl rfl) ?_
      refine RunL.still rfl rfl rfl (Still.move rfl rfl) ?_
      refine RunL.still rfl rfl rfl (Still.indexSliceN rfl rfl rfl Tryz.underlying22 Tryz.sizeOf62 (hd.base (by omega)) (by omega)) ?_
      refine RunL.still rfl rfl rfl (Still.fieldAddrA (off := 0) rfl rfl Tryz.underlying62 rfl Tryz.sizeOf60 rfl) ?_
      refine RunL.still rfl rfl rfl (Still.indexArrN rfl rfl rfl Tryz.underlying60 Tryz.sizeOf3 (by omega)) ?_
      refine RunL.still rfl rfl rfl (Still.load rfl rfl Tryz.isAgg3 (fun _ hs => hs.base0 (hd.arc hx hp4))) ?_
      refine RunL.still rfl rfl rfl (Still.move rfl rfl) ?_
      refine RunL.still rfl rfl rfl (Still.eql rfl rfl rfl) ?_
      refine RunL.still rfl rfl rfl (Still.move rfl rfl) ?_
      refine RunL.split (t := 30) rfl (fun h30 => ?_) (fun h30 => ?_)
      · have h30 := of_decide_eq_true h30
        refine RunL.still rfl rfl rfl (Still.fieldAddrL (off := 0) (off' := 0) rfl rfl Tryz.underlying24 rfl Tryz.sizeOf22 rfl) ?_
        refine RunL.still rfl rfl rfl (Still.load rfl rfl Tryz.isAgg22 (fun _ hs => cell_nth (hs.at (i := 1) rfl) rfl)) ?_
        refine RunL.still rfl rfl rfl (Still.move rfl rfl) ?_
        refine RunL.still rfl rfl rfl (Still.indexSliceN rfl rfl rfl Tryz.underlying22 Tryz.sizeOf62 (hd.base (by omega)) (by omega)) ?_
        refine RunL.still rfl rfl rfl (Still.loads rfl rfl Tryz.isAgg62 Tryz.sizeOf62 (vs := encCr x) rfl (fun _ hs => Cells.base0 (hd.cross hx) hs)) ?_
        refine RunL.still rfl rfl rfl (Still.move rfl rfl) ?_
        refine RunL.grows rfl rfl rfl (Grows.call (vs := #[_, _]) rfl rfl Tryz.call72 (fun w hs => ref_In x p w)) (fun _ _ => ?_)
        refine RunL.still rfl rfl rfl (Still.move rfl rfl) ?_
        refine RunL.still rfl rfl rfl (Still.eqlB rfl rfl rfl Tryz.underlying4) ?_
        refine RunL.still rfl rfl rfl (Still.pickT rfl rfl rfl) ?_
        refine RunL.nil ?_
        refine Ends.then ?_
        refine RunC.cond rfl (fun h40 => ?_) (fun h40 => ?_)
        · skip
          refine RunC.seq ?_
          refine RunC.region ?_
          refine RunL.still rfl rfl rfl (Still.move rfl rfl) ?_
          refine RunL.still rfl rfl rfl (Still.move rfl rfl) ?_
          refine RunL.still rfl rfl rfl (Still.build_1_1 (fun x0_0 x1_0 => .agg #[x0_0, x1_0]) rfl rfl rfl (fun _ => by kernel_rfl)) ?_
          refine RunL.does0 rfl rfl (Does.store rfl rfl rfl (i := 0) rfl Tryz.sizeOf110 rfl (rfl) rfl) (fun _ _ => ?_)
          refine RunL.nil ?_
          refine Ends.then ?_
          refine RunC.ret ?_
          refine Ends.block_ret ?_
          refine Ends.then_ret ?_
          refine Ends.then_ret ?_
          refine Ends.block_ret ?_
          refine Ends.block_ret ?_
          refine Ends.then_ret ?_
          refine Ends.then_ret ?_
          refine Ends.block_ret ?_
          refine Ends.then_ret ?_
          refine Ends.leave (.inl rfl) (fun _ _ ok => results1 Tryz.results123 (Holds.cell rfl (fun _ hs => load_cells (vs := [_, _]) Tryz.isAgg110 Tryz.sizeOf110 rfl (cells_nth (hs.at (i := 0) rfl) ⟨rfl, ⟨rfl, trivial⟩⟩))) ok) (fun w1 hs => ?_)
          exact Ret.intro () trivial (by rw [findEnd, find_range_some (k := 4 * c + p) (by omega) (by rw [matchAt_eq hx hp4, decide_eq_true h30, h40]; rfl) hM2]; simp only [endV, endC, endP]; rw [show (4 * c + p) / 4 = c by omega, show (4 * c + p) % 4 = p by omega]) (HSub.nil _) hs
        · skip
          refine RunC.skip ?_
          refine Ends.block ?_
          refine Ends.then ?_
          refine RunC.region ?_
          refine RunL.still rfl rfl rfl (Still.move rfl rfl) ?_
          refine RunL.still rfl rfl rfl (Still.add rfl rfl rfl (fits64 (by omega) (by omega))) ?_
          refine RunL.still rfl rfl rfl (Still.assign rfl rfl) ?_
          refine RunL.nil ?_
          refine Ends.again (p + 1) ?_ ?_ (Fr.Sub.app ?_ ?_) ?_
          · exact ⟨by omega, lt_ext (k := 4 * c + p) hM2 (by rw [matchAt_eq hx hp4, h40, Bool.and_false])⟩
          · show _ < _; omega
          · exact Fr.Sub.cons rfl (Fr.Sub.nil _)
          · exact Fr.Sub.cons rfl (Fr.Sub.cons rfl (Fr.Sub.cons rfl (Fr.Sub.cons rfl (Fr.Sub.cons rfl (Fr.Sub.nil _)))))
          · exact HSub.pick 0 rfl (HSub.pick 0 rfl (HSub.nil _))
      · have h30 := of_decide_eq_false h30
        refine RunL.off rfl rfl rfl ?_
        refine RunL.off rfl rfl rfl ?_
        refine RunL.off rfl rfl rfl ?_
        refine RunL.off rfl rfl rfl ?_
        refine RunL.off rfl rfl rfl ?_
        refine RunL.off rfl rfl rfl ?_
        refine RunL.off rfl rfl rfl ?_
        refine RunL.off rfl rfl rfl ?_
        refine RunL.off rfl rfl rfl ?_
        refine RunL.still rfl rfl rfl (Still.pickF rfl rfl rfl) ?_
        refine RunL.nil ?_
        refine Ends.then ?_
        refine RunC.cond_false rfl ?_
        refine RunC.skip ?_
        refine Ends.block ?_
        refine Ends.then ?_
        refine RunC.region ?_
        refine RunL.still rfl rfl rfl (Still.move rfl rfl) ?_
        refine RunL.still rfl rfl rfl (Still.add rfl rfl rfl (fits64 (by omega) (by omega))) ?_
        refine RunL.still rfl rfl rfl (Still.assign rfl rfl) ?_
        refine RunL.nil ?_
        refine Ends.again (p + 1) ?_ ?_ (Fr.Sub.app ?_ ?_) ?_
        · exact ⟨by omega, lt_ext (k := 4 * c + p) hM2 (by rw [matchAt_eq hx hp4, decide_eq_false h30, Bool.false_and])⟩
        · show _ < _; omega
        · exact Fr.Sub.cons rfl (Fr.Sub.nil _)
        · exact Fr.Sub.cons rfl (Fr.Sub.cons rfl (Fr.Sub.cons rfl (Fr.Sub.cons rfl (Fr.Sub.cons rfl (Fr.Sub.nil _)))))
        · exact HSub.pick 0 rfl (HSub.pick 0 rfl (HSub.nil _))
    · have h17 := of_decide_eq_false h17
      refine RunC.exit ?_
      refine Ends.then_exit ?_
      refine Ends.then_exit ?_
      refine Ends.block_exit ?_
      refine Ends.block ?_
      refine Ends.then ?_
      refine RunC.region ?_
      refine RunL.still rfl rfl rfl (Still.move rfl rfl) ?_
      refine RunL.still rfl rfl rfl (Still.add rfl rfl rfl (fits64 (by omega) (by omega))) ?_
      refine RunL.still rfl rfl rfl (Still.assign rfl rfl) ?_
      refine RunL.nil ?_
      refine Ends.again (c + 1) ?_ ?_ (Fr.Sub.app ?_ ?_) ?_
      · exact ⟨by omega, fun q hq => hM2 q (by omega)⟩
      · show _ < _; omega
      · exact Fr.Sub.cons rfl (Fr.Sub.nil _)
      · exact Fr.Sub.cons rfl (Fr.Sub.cons rfl (Fr.Sub.cons rfl (Fr.Sub.cons rfl (Fr.Sub.nil _))))
      · exact HSub.pick 0 rfl (HSub.pick 0 rfl (HSub.nil _))
  · have h13 := of_decide_eq_false h13
    refine RunC.exit ?_
    refine Ends.then_exit ?_
    refine Ends.then_exit ?_
    refine Ends.block_exit ?_
    refine Ends.then ?_
    refine RunC.seq ?_
    refine RunC.region ?_
    refine RunL.still rfl rfl rfl (Still.build_1 (fun x0_0 => .agg #[x0_0, .int .i64 0]) rfl rfl (fun _ => by kernel_rfl)) ?_
    refine RunL.does0 rfl rfl (Does.store rfl rfl rfl (i := 0) rfl Tryz.sizeOf110 rfl (rfl) rfl) (fun _ _ => ?_)
    refine RunL.nil ?_
    refine Ends.then ?_
    refine RunC.ret ?_
    refine Ends.leave (.inl rfl) (fun _ _ ok => results1 Tryz.results123 (Holds.cell rfl (fun _ hs => load_cells (vs := [_, _]) Tryz.isAgg110 Tryz.sizeOf110 rfl (cells_nth (hs.at (i := 0) rfl) ⟨rfl, ⟨rfl, trivial⟩⟩))) ok) (fun w2 hs => ?_)
    exact Ret.intro () trivial (by rw [findEnd, find_range_none (fun q hq => hM q (by omega))]; rfl) (HSub.nil _) hs

theorem ref_End (base : Option Addr) (A : Addr) (cap : Nat) (d : Dia) (a : Int) (w : World) (hd : DiaAt w base A d) : Gives Tryz.prog 125 #[diaV base cap d, iv a] w Nil (fun _ : Unit => True) (fun _ => endV (findEnd d a true)) (fun _ => []) := by
  refine fn_of_run (S := Nil) (args := [diaV base cap d, iv a]) (n := 8) (L := []) Tryz.func125 rfl Tryz.ntmps125 (Nat.le_of_ble_eq_true rfl) (Sym.nil _ _) ?_
  change RunC _ _ _ [(0, _), (1, _)] _
  refine RunC.seq ?_
  refine RunC.region ?_
  refine RunL.grows rfl rfl rfl (Grows.box rfl rfl) (fun b2 _ => ?_)
  refine RunL.grows rfl rfl rfl (Grows.alloc rfl Tryz.zeroValue110) (fun b4 _ => ?_)
  refine RunL.nil ?_
  refine Ends.then ?_
  refine RunC.seq ?_
  refine RunC.region ?_
  refine RunL.still rfl rfl rfl (Still.loads rfl rfl Tryz.isAgg24 Tryz.sizeOf24 (vs := [_, _]) rfl (fun _ hs => cells_nth (hs.at (i := 1) rfl) ⟨rfl, ⟨rfl, trivial⟩⟩)) ?_
  refine RunL.still rfl rfl rfl (Still.move rfl rfl) ?_
  refine RunL.grows rfl rfl rfl (Grows.call (vs := #[_, _, _]) rfl rfl Tryz.call123 (fun w hs => ref_end base A cap d a true w (hd.sym hs))) (fun _ _ => ?_)
  refine RunL.does0 rfl rfl (Does.store rfl rfl rfl (i := 0) rfl Tryz.sizeOf110 rfl (rfl) rfl) (fun _ _ => ?_)
  refine RunL.nil ?_
  refine Ends.then ?_
  refine RunC.ret ?_
  refine Ends.leave (.inl rfl) (fun _ _ ok => results1 Tryz.results125 (Holds.cell rfl (fun _ hs => load_cells (vs := [_, _]) Tryz.isAgg110 Tryz.sizeOf110 rfl (cells_nth (hs.at (i := 0) rfl) ⟨rfl, ⟨rfl, trivial⟩⟩))) ok) (fun w1 hs => ?_)
  exact Ret.intro () trivial rfl (HSub.nil _) hs

theorem ref_Other (base : Option Addr) (A : Addr) (cap : Nat) (d : Dia) (c p : Nat) (x : Cr) (w : World) (hd : DiaAt w base A d) (hx : d.cross[c]? = some x) (hp : p < 4) : Gives Tryz.prog 88 #[diaV base cap d, .agg #[iv c, iv p]] w Nil (fun _ : Unit => True) (fun _ => endV (findEnd d (x.arc p) (!x.inn p))) (fun _ => []) := by
  have hc : c < d.cross.length := (List.getElem?_eq_some_iff.1 hx).1
  refine fn_of_run (S := Nil) (args := [diaV base cap d, .agg #[iv c, iv p]]) (n := 27) (L := []) Tryz.func88 rfl Tryz.ntmps88 (Nat.le_of_ble_eq_true rfl) (Sym.nil _ _) ?_
  change RunC _ _ _ [(0, _), (1, _)] _
  refine RunC.seq ?_
  refine RunC.region ?_
  refine RunL.grows rfl rfl rfl (Grows.box rfl rfl) (fun b2 _ => ?_)
  refine RunL.grows rfl rfl rfl (Grows.box rfl rfl) (fun b3 _ => ?_)
  refine RunL.grows rfl rfl rfl (Grows.alloc rfl Tryz.zeroValue110) (fun b4 _ => ?_)
  refine RunL.nil ?_
  refine Ends.then ?_
  refine RunC.seq ?_
  refine RunC.draw 21 (.still 0 (.still 1 (.still 2 (.still 3 (.still 4 (.still 5 (.still 6 (.still 7 (.still 8 (.still 9 (.still 10 (.still 11 (.still 12 (.still 13 (.still 14 (.still 15 (.still 16 (.still 17 (.still 18 (.one 19 (.still 20 .done))))))))))))))))))))) (by kernel_rfl) (by kernel_rfl) ?_
  refine RunG.still rfl rfl rfl rfl (Still.loads rfl rfl Tryz.isAgg24 Tryz.sizeOf24 (vs := [_, _]) rfl (fun _ hs => cells_nth (hs.at (i := 2) rfl) ⟨rfl, ⟨rfl, trivial⟩⟩)) ?_
  refine RunG.still rfl rfl rfl rfl (Still.fieldAddrL (off := 0) (off' := 0) rfl rfl Tryz.underlying24 rfl Tryz.sizeOf22 rfl) ?_
  refine RunG.still rfl rfl rfl rfl (Still.load rfl rfl Tryz.isAgg22 (fun _ hs => cell_nth (hs.at (i := 2) rfl) rfl)) ?_
  refine RunG.still rfl rfl rfl rfl (Still.fieldAddrL (off := 0) (off' := 0) rfl rfl Tryz.underlying110 rfl Tryz.sizeOf3 rfl) ?_
  refine RunG.still rfl rfl rfl rfl (Still.load rfl rfl Tryz.isAgg3 (fun _ hs => cell_nth (hs.at (i := 1) rfl) rfl)) ?_
  refine RunG.still rfl rfl rfl rfl (Still.fieldAddrL (off := 0) (off' := 1) rfl rfl Tryz.underlying110 rfl Tryz.sizeOf3 rfl) ?_
  refine RunG.still rfl rfl rfl rfl (Still.load rfl rfl Tryz.isAgg3 (fun _ hs => cell_nth (hs.at (i := 1) rfl) rfl)) ?_
  refine RunG.still rfl rfl rfl rfl (Still.indexSliceN rfl rfl rfl Tryz.underlying22 Tryz.sizeOf62 (hd.base (by omega)) (by omega)) ?_
  refine RunG.still rfl rfl rfl rfl (Still.fieldAddrA (off := 0) rfl rfl Tryz.underlying62 rfl Tryz.sizeOf60 rfl) ?_
  refine RunG.still rfl rfl rfl rfl (Still.indexArrN rfl rfl rfl Tryz.underlying60 Tryz.sizeOf3 (by omega)) ?_
  refine RunG.still rfl rfl rfl rfl (Still.load rfl rfl Tryz.isAgg3 (fun _ hs => hs.base0 (hd.arc hx hp))) ?_
  refine RunG.still rfl rfl rfl rfl (Still.fieldAddrL (off := 0) (off' := 0) rfl rfl Tryz.underlying24 rfl Tryz.sizeOf22 rfl) ?_
  refine RunG.still rfl rfl rfl rfl (Still.load rfl rfl Tryz.isAgg22 (fun _ hs => cell_nth (hs.at (i := 2) rfl) rfl)) ?_
  refine RunG.still rfl rfl rfl rfl (Still.fieldAddrL (off := 0) (off' := 0) rfl rfl Tryz.underlying110 rfl Tryz.sizeOf3 rfl) ?_
  refine RunG.still rfl rfl rfl rfl (Still.load rfl rfl Tryz.isAgg3 (fun _ hs => cell_nth (hs.at (i := 1) rfl) rfl)) ?_
  refine RunG.still rfl rfl rfl rfl (Still.indexSliceN rfl rfl rfl Tryz.underlying22 Tryz.sizeOf62 (hd.base (by omega)) (by omega)) ?_
  refine RunG.still rfl rfl rfl rfl (Still.loads rfl rfl Tryz.isAgg62 Tryz.sizeOf62 (vs := encCr x) rfl (fun _ hs => Cells.base0 (hd.cross hx) hs)) ?_
  refine RunG.still rfl rfl rfl rfl (Still.fieldAddrL (off := 0) (off' := 1) rfl rfl Tryz.underlying110 rfl Tryz.sizeOf3 rfl) ?_
  refine RunG.still rfl rfl rfl rfl (Still.load rfl rfl Tryz.isAgg3 (fun _ hs => cell_nth (hs.at (i := 1) rfl) rfl)) ?_
  refine RunG.grows rfl rfl rfl rfl (Grows.call (vs := #[_, _]) rfl rfl Tryz.call72 (fun w hs => ref_In x p w)) (fun _ _ => ?_)
  refine RunG.still rfl rfl rfl rfl (Still.not rfl rfl) ?_
  refine RunG.done ?_
  show RunL _ _ _ [_, _] _ _
  refine RunL.grows rfl rfl rfl (Grows.call (vs := #[_, _, _]) rfl rfl Tryz.call123 (fun w hs => ref_end base A cap d (x.arc p) (!x.inn p) w (hd.sym hs))) (fun _ _ => ?_)
  refine RunL.does0 rfl rfl (Does.store rfl rfl rfl (i := 0) rfl Tryz.sizeOf110 rfl (rfl) rfl) (fun _ _ => ?_)
  refine RunL.nil ?_
  refine Ends.then ?_
  refine RunC.ret ?_
  refine Ends.leave (.inl rfl) (fun _ _ ok => results1 Tryz.results88 (Holds.cell rfl (fun _ hs => load_cells (vs := [_, _]) Tryz.isAgg110 Tryz.sizeOf110 rfl (cells_nth (hs.at (i := 0) rfl) ⟨rfl, ⟨rfl, trivial⟩⟩))) ok) (fun w1 hs => ?_)
  exact Ret.intro () trivial rfl (HSub.nil _) hs

theorem ref_Next (base : Option Addr) (A : Addr) (cap : Nat) (d : Dia) (a : Int) (q : Nat) (w : World) (hd : DiaAt w base A d) (hq : findEnd d a true = some q) : Gives Tryz.prog 126 #[diaV base cap d, iv a] w Nil (fun _ : Unit => True) (fun _ => iv (nextA d a)) (fun _ => []) := by
  have hq1 := (findEnd_some hq).1
  have hx := crAt_get (d := d) (c := q / 4) (by omega)
  refine fn_of_run (S := Nil) (args := [diaV base cap d, iv a]) (n := 21) (L := []) Tryz.func126 rfl Tryz.ntmps126 (Nat.le_of_ble_eq_true rfl) (Sym.nil _ _) ?_
  change RunC _ _ _ [(0, _), (1, _)] _
  refine RunC.seq ?_
  refine RunC.region ?_
  refine RunL.grows rfl rfl rfl (Grows.box rfl rfl) (fun b2 _ => ?_)
  refine RunL.still rfl rfl rfl (Still.assign rfl rfl) ?_
  refine RunL.nil ?_
  refine Ends.then ?_
  refine RunC.seq ?_
  refine RunC.region ?_
  refine RunL.still rfl rfl rfl (Still.loads rfl rfl Tryz.isAgg24 Tryz.sizeOf24 (vs := [_, _]) rfl (fun _ hs => cells_nth (hs.at (i := 0) rfl) ⟨rfl, ⟨rfl, trivial⟩⟩)) ?_
  refine RunL.still rfl rfl rfl (Still.move rfl rfl) ?_
  refine RunL.grows rfl rfl rfl (Grows.call (vs := #[_, _]) rfl rfl Tryz.call125 (fun w hs => ref_End base A cap d a w (hd.sym hs))) (fun _ _ => ?_)
  have hC : endC (findEnd d a true) = ((q / 4 : Nat) : Int) := by rw [hq]; rfl
  have hP : endP (findEnd d a true) = ((q % 4 : Nat) : Int) := by rw [hq]; rfl
  have hP4 : 0 ≤ endP (findEnd d a true) ∧ endP (findEnd d a true) < 4 := by rw [hP]; omega
  refine RunL.grows rfl rfl rfl (Grows.alloc rfl Tryz.zeroValue110) (fun b5 _ => ?_)
  refine RunL.does0 rfl rfl (Does.store rfl rfl rfl (i := 0) rfl Tryz.sizeOf110 rfl (rfl) rfl) (fun _ _ => ?_)
  refine RunL.nil ?_
  refine Ends.then ?_
  refine RunC.seq ?_
  refine RunC.draw 12 (.still 0 (.still 1 (.still 2 (.still 3 (.still 4 (.still 5 (.still 6 (.still 7 (.still 8 (.still 9 (.still 10 (.still 11 .done)))))))))))) (by kernel_rfl) (by kernel_rfl) ?_
  refine RunG.still rfl rfl rfl rfl (Still.fieldAddrL (off := 0) (off' := 0) rfl rfl Tryz.underlying24 rfl Tryz.sizeOf22 rfl) ?_
  refine RunG.still rfl rfl rfl rfl (Still.load rfl rfl Tryz.isAgg22 (fun _ hs => cell_nth (hs.at (i := 1) rfl) rfl)) ?_
  refine RunG.still rfl rfl rfl rfl (Still.fieldAddrL (off := 0) (off' := 0) rfl rfl Tryz.underlying110 rfl Tryz.sizeOf3 rfl) ?_
  refine RunG.still rfl rfl rfl rfl (Still.load rfl rfl Tryz.isAgg3 (fun _ hs => cell_nth (hs.at (i := 0) rfl) rfl)) ?_
  refine RunG.still rfl rfl rfl rfl (Still.fieldAddrL (off := 0) (off' := 1) rfl rfl Tryz.underlying110 rfl Tryz.sizeOf3 rfl) ?_
  refine RunG.still rfl rfl rfl rfl (Still.load rfl rfl Tryz.isAgg3 (fun _ hs => cell_nth (hs.at (i := 0) rfl) rfl)) ?_
  refine RunG.still rfl rfl rfl rfl (Still.add rfl rfl rfl (fits64 (by omega) (by omega))) ?_
  refine RunG.still rfl rfl rfl rfl (Still.remP rfl rfl rfl (by omega) (by omega)) ?_
  refine RunG.still rfl rfl rfl rfl (Still.indexSliceE (q / 4) rfl rfl rfl Tryz.underlying22 Tryz.sizeOf62 (hd.base (by omega)) (hC) (by omega)) ?_
  refine RunG.still rfl rfl rfl rfl (Still.fieldAddrA (off := 0) rfl rfl Tryz.underlying62 rfl Tryz.sizeOf60 rfl) ?_
  refine RunG.still rfl rfl rfl rfl (Still.indexArrE ((q % 4 + 2) % 4) rfl rfl rfl Tryz.underlying60 Tryz.sizeOf3 (by rw [hP]; omega) (by omega)) ?_
  refine RunG.still rfl rfl rfl rfl (Still.load rfl rfl Tryz.isAgg3 (fun _ hs => hs.base0 (hd.arc hx (by omega)))) ?_
  refine RunG.done ?_
  show RunL _ _ _ [_] _ _
  refine RunL.still rfl rfl rfl (Still.assign rfl rfl) ?_
  refine RunL.nil ?_
  refine Ends.then ?_
  refine RunC.ret ?_
  refine Ends.leave (.inl rfl) (fun _ _ ok => results1 Tryz.results126 (Holds.tmp rfl) ok) (fun w1 hs => ?_)
  exact Ret.intro () trivial (by rw [nextA, hq]) (HSub.nil _) hs

theorem ref_Sound (base : Option Addr) (A : Addr) (cap : Nat) (d : Dia) (w : World) (hd : DiaAt w base A d) : Gives Tryz.prog 34 #[diaV base cap d] w Nil (fun _ : Unit => True) (fun _ => .bool (soundB d)) (fun _ => []) := by
  have hlen := hd.len
  refine fn_of_run (S := Nil) (args := [diaV base cap d]) (n := 109) (L := []) Tryz.func34 rfl Tryz.ntmps34 (Nat.le_of_ble_eq_true rfl) (Sym.nil _ _) ?_
  change RunC _ _ _ [(0, _)] _
  refine RunC.seq ?_
  refine RunC.region ?_
  refine RunL.grows rfl rfl rfl (Grows.box rfl rfl) (fun b1 _ => ?_)
  refine RunL.still rfl rfl rfl (Still.assign rfl rfl) ?_
  refine RunL.nil ?_
  refine Ends.then ?_
  refine RunC.seq ?_
  refine RunC.region ?_
  refine RunL.still rfl rfl rfl (Still.fieldAddrL (off := 0) (off' := 0) rfl rfl Tryz.underlying24 rfl Tryz.sizeOf22 rfl) ?_
  refine RunL.still rfl rfl rfl (Still.load rfl rfl Tryz.isAgg22 (fun _ hs => cell_nth (hs.at (i := 0) rfl) rfl)) ?_
  refine RunL.still rfl rfl rfl (Still.lenSlice rfl rfl Tryz.underlying22) ?_
  refine RunL.still rfl rfl rfl (Still.assign rfl rfl) ?_
  refine RunL.nil ?_
  refine Ends.then ?_
  refine RunC.seq ?_
  refine RunC.seq ?_
  refine RunC.meet1 (chg := [(24, .bool (decide (200 < d.cross.length ∨ d.loops < 0 ∨ 200 < d.loops)))]) (keep := [(1, _), (3, _)]) (hkeep := [_]) (Fr.Sub.cons rfl (Fr.Sub.cons rfl (Fr.Sub.nil _))) (HSub.pick 0 rfl (HSub.nil _)) ?_ ?_
  ·
    refine RunC.region ?_
    refine RunL.still rfl rfl rfl (Still.move rfl rfl) ?_
    refine RunL.still rfl rfl rfl (Still.gtr rfl rfl rfl) ?_
    refine RunL.still rfl rfl rfl (Still.move rfl rfl) ?_
    refine RunL.split (t := 15) rfl (fun h15 => ?_) (fun h15 => ?_)
    · have h15 := of_decide_eq_true h15
      refine RunL.off rfl rfl rfl ?_
      refine RunL.off rfl rfl rfl ?_
      refine RunL.off rfl rfl rfl ?_
      refine RunL.still rfl rfl rfl (Still.pickT rfl rfl rfl) ?_
      refine RunL.still rfl rfl rfl (Still.move rfl rfl) ?_
      refine RunL.off rfl rfl rfl ?_
      refine RunL.off rfl rfl rfl ?_
      refine RunL.off rfl rfl rfl ?_
      refine RunL.still rfl rfl rfl (Still.pickT rfl rfl rfl) ?_
      refine RunL.nil ?_
      exact Ends.meet1 (Fr.Sub.cons (by first | exact congrArg (fun b => some (Value.bool b)) (decide_eq_true (by omega)).symm | exact congrArg (fun b => some (Value.bool b)) (decide_eq_false (by omega)).symm | exact congrArg (fun b => some (Value.bool b)) (decide_eq_decide.2 (by omega))) (Fr.Sub.nil _)) (Fr.Sub.cons rfl (Fr.Sub.cons rfl (Fr.Sub.nil _))) (HSub.pick 0 rfl (HSub.nil _))
    · have h15 := of_decide_eq_false h15
      refine RunL.still rfl rfl rfl (Still.fieldAddrL (off := 0) (off' := 1) rfl rfl Tryz.underlying24 rfl Tryz.sizeOf3 rfl) ?_
      refine RunL.still rfl rfl rfl (Still.load rfl rfl Tryz.isAgg3 (fun _ hs => cell_nth (hs.at (i := 0) rfl) rfl)) ?_
      refine RunL.still rfl rfl rfl (Still.lss rfl rfl rfl) ?_
      refine RunL.still rfl rfl rfl (Still.pickF rfl rfl rfl) ?_
      refine RunL.still rfl rfl rfl (Still.move rfl rfl) ?_
      refine RunL.split (t := 20) rfl (fun h20 => ?_) (fun h20 => ?_)
      · have h20 := of_decide_eq_true h20
        refine RunL.off rfl rfl rfl ?_
        refine RunL.off rfl rfl rfl ?_
        refine RunL.off rfl rfl rfl ?_
        refine RunL.still rfl rfl rfl (Still.pickT rfl rfl rfl) ?_
        refine RunL.nil ?_
        exact Ends.meet1 (Fr.Sub.cons (by first | exact congrArg (fun b => some (Value.bool b)) (decide_eq_true (by omega)).symm | exact congrArg (fun b => some (Value.bool b)) (decide_eq_false (by omega)).symm | exact congrArg (fun b => some (Value.bool b)) (decide_eq_decide.2 (by omega))) (Fr.Sub.nil _)) (Fr.Sub.cons rfl (Fr.Sub.cons rfl (Fr.Sub.nil _))) (HSub.pick 0 rfl (HSub.nil _))
      · have h20 := of_decide_eq_false h20
        refine RunL.still rfl rfl rfl (Still.fieldAddrL (off := 0) (off' := 1) rfl rfl Tryz.underlying24 rfl Tryz.sizeOf3 rfl) ?_
        refine RunL.still rfl rfl rfl (Still.load rfl rfl Tryz.isAgg3 (fun _ hs => cell_nth (hs.at (i := 0) rfl) rfl)) ?_
        refine RunL.still rfl rfl rfl (Still.gtr rfl rfl rfl) ?_
        refine RunL.still rfl rfl rfl (Still.pickF rfl rfl rfl) ?_
        refine RunL.nil ?_
        exact Ends.meet1 (Fr.Sub.cons (by first | exact congrArg (fun b => some (Value.bool b)) (decide_eq_true (by omega)).symm | exact congrArg (fun b => some (Value.bool b)) (decide_eq_false (by omega)).symm | exact congrArg (fun b => some (Value.bool b)) (decide_eq_decide.2 (by omega))) (Fr.Sub.nil _)) (Fr.Sub.cons rfl (Fr.Sub.cons rfl (Fr.Sub.nil _))) (HSub.pick 0 rfl (HSub.nil _))
  ·
    refine Ends.then ?_
    refine RunC.cond rfl (fun h24 => ?_) (fun h24 => ?_)
    · have h24 := of_decide_eq_true h24
      refine RunC.seq ?_
      refine RunC.region ?_
      refine RunL.still rfl rfl rfl (Still.assign rfl rfl) ?_
      refine RunL.nil ?_
      refine Ends.then ?_
      refine RunC.ret ?_
      refine Ends.then_ret ?_
      refine Ends.leave (.inl rfl) (fun _ _ ok => results1 Tryz.results34 (Holds.tmp rfl) ok) (fun w1 hs => ?_)
      exact Ret.intro () trivial (soundB_false (fun h => by have h1 := h.1; have h2 := h.2.1; have h3 := h.2.2.1; omega)) (HSub.nil _) hs
    · have h24 := of_decide_eq_false h24
      refine RunC.skip ?_
      refine Ends.then ?_
      refine RunC.seq ?_
      refine RunC.region ?_
      refine RunL.still rfl rfl rfl (Still.move rfl rfl) ?_
      refine RunL.still rfl rfl rfl (Still.mul rfl rfl rfl (fits64 (by omega) (by omega))) ?_
      refine RunL.grows rfl rfl rfl (Grows.make (n := (2 * d.cross.length)) (xs := (ints (List.replicate (2 * d.cross.length) 0))) rfl rfl rfl Tryz.underlying36 (by kernel_rfl : (_ : Option _) = some (some (.int .i64 0), 1, 8)) rfl (by omega) (by omega) (zeros_one _ _ |>.trans (ints_replicate _ _))) (fun b27 _ => ?_)
      refine RunL.still rfl rfl rfl (Still.assign rfl rfl) ?_
      refine RunL.nil ?_
      refine Ends.then ?_
      refine RunC.seq ?_
      refine RunC.region ?_
      refine RunL.still rfl rfl rfl (Still.move rfl rfl) ?_
      refine RunL.still rfl rfl rfl (Still.mul rfl rfl rfl (fits64 (by omega) (by omega))) ?_
      refine RunL.grows rfl rfl rfl (Grows.make (n := (2 * d.cross.length)) (xs := (ints (List.replicate (2 * d.cross.length) 0))) rfl rfl rfl Tryz.underlying36 (by kernel_rfl : (_ : Option _) = some (some (.int .i64 0), 1, 8)) rfl (by omega) (by omega) (zeros_one _ _ |>.trans (ints_replicate _ _))) (fun b30 _ => ?_)
      refine RunL.still rfl rfl rfl (Still.assign rfl rfl) ?_
      refine RunL.nil ?_
      refine Ends.then ?_
      refine RunC.seq ?_
      refine RunC.seq ?_
      refine RunC.region ?_
      refine RunL.still rfl rfl rfl (Still.assign rfl rfl) ?_
      refine RunL.nil ?_
      refine Ends.then ?_
      refine RunC.block ?_
      refine RunC.loop2 (γ := Nat) (keep := [(1, _), (3, _), (4, _), (5, _)]) (hkeep := [_]) (fun c => c ≤ d.cross.length ∧ ∀ i x, i < c → d.cross[i]? = some x → (x.s = 1 ∨ x.s = -1) ∧ ∀ p, p < 4 → 0 ≤ x.arc p ∧ x.arc p < 2 * d.cross.length) (fun c => d.cross.length - c) (fun c => [(6, iv c)]) (fun c => [HL.own 3 1 (.slice (some ⟨b27, 0, none⟩) (2 * d.cross.length) (2 * d.cross.length)) (2 * d.cross.length) (ints (cntL d false (4 * c))), HL.own 3 1 (.slice (some ⟨b30, 0, none⟩) (2 * d.cross.length) (2 * d.cross.length)) (2 * d.cross.length) (ints (cntL d true (4 * c)))]) 0 ⟨by omega, fun i x hi => by omega⟩ (Fr.Sub.cons rfl (Fr.Sub.nil _)) (Fr.Sub.cons rfl (Fr.Sub.cons rfl (Fr.Sub.cons rfl (Fr.Sub.cons rfl (Fr.Sub.nil _))))) (HSub.pick 1 (by rw [cntL_zero]; rfl) (HSub.pick 0 (by rw [cntL_zero]; rfl) (HSub.pick 0 rfl (HSub.nil _)))) ?_
      rintro c ⟨hc, hg⟩
      refine RunC.seq ?_
      refine RunC.seq ?_
      refine RunC.region ?_
      refine RunL.still rfl rfl rfl (Still.move rfl rfl) ?_
      refine RunL.still rfl rfl rfl (Still.move rfl rfl) ?_
      refine RunL.still rfl rfl rfl (Still.lss rfl rfl rfl) ?_
      refine RunL.nil ?_
      refine Ends.then ?_
      refine RunC.cond rfl (fun h33 => ?_) (fun h33 => ?_)
      · have h33 := of_decide_eq_true h33
        obtain ⟨x, hx⟩ := get_of_lt (l := d.cross) (i := c) (by omega)
        refine RunC.skip ?_
        refine Ends.then ?_
        refine RunC.seq ?_
        refine RunC.block ?_
        refine RunC.seq ?_
        refine RunC.seq ?_
        refine RunC.meet1 (chg := [(51, .bool (decide (¬ (x.s = 1 ∨ x.s = -1))))]) (keep := [(1, _), (3, _), (4, _), (5, _), (6, _)]) (hkeep := [_, _, _]) (Fr.Sub.cons rfl (Fr.Sub.cons rfl (Fr.Sub.cons rfl (Fr.Sub.cons rfl (Fr.Sub.cons rfl (Fr.Sub.nil _)))))) (HSub.pick 0 rfl (HSub.pick 0 rfl (HSub.pick 0 rfl (HSub.nil _)))) ?_ ?_
        ·
          refine RunC.region ?_
          refine RunL.still rfl rfl rfl (Still.fieldAddrL (off := 0) (off' := 0) rfl rfl Tryz.underlying24 rfl Tryz.sizeOf22 rfl) ?_
          refine RunL.still rfl rfl rfl (Still.load rfl rfl Tryz.isAgg22 (fun _ hs => cell_nth (hs.at (i := 2) rfl) rfl)) ?_
          refine RunL.still rfl rfl rfl (Still.move rfl rfl) ?_
          refine RunL.still rfl rfl rfl (Still.indexSliceN rfl rfl rfl Tryz.underlying22 Tryz.sizeOf62 (hd.base (by omega)) (by omega)) ?_
          refine RunL.still rfl rfl rfl (Still.fieldAddrA (off := 4) rfl rfl Tryz.underlying62 rfl Tryz.sizeOf3 rfl) ?_
          refine RunL.still rfl rfl rfl (Still.load rfl rfl Tryz.isAgg3 (fun _ hs => hs.base0 (hd.sign hx))) ?_
          refine RunL.still rfl rfl rfl (Still.neq rfl rfl rfl) ?_
          refine RunL.still rfl rfl rfl (Still.move rfl rfl) ?_
          refine RunL.split (t := 43) rfl (fun h43 => ?_) (fun h43 => ?_)
          · have h43 := of_decide_eq_true h43
            refine RunL.still rfl rfl rfl (Still.fieldAddrL (off := 0) (off' := 0) rfl rfl Tryz.underlying24 rfl Tryz.sizeOf22 rfl) ?_
            refine RunL.still rfl rfl rfl (Still.load rfl rfl Tryz.isAgg22 (fun _ hs => cell_nth (hs.at (i := 2) rfl) rfl)) ?_
            refine RunL.still rfl rfl rfl (Still.move rfl rfl) ?_
            refine RunL.still rfl rfl rfl (Still.indexSliceN rfl rfl rfl Tryz.underlying22 Tryz.sizeOf62 (hd.base (by omega)) (by omega)) ?_
            refine RunL.still rfl rfl rfl (Still.fieldAddrA (off := 4) rfl rfl Tryz.underlying62 rfl Tryz.sizeOf3 rfl) ?_
            refine RunL.still rfl rfl rfl (Still.load rfl rfl Tryz.isAgg3 (fun _ hs => hs.base0 (hd.sign hx))) ?_
            refine RunL.still rfl rfl rfl (Still.neq rfl rfl rfl) ?_
            refine RunL.still rfl rfl rfl (Still.pickT rfl rfl rfl) ?_
            refine RunL.nil ?_
            exact Ends.meet1 (Fr.Sub.cons (by first | exact congrArg (fun b => some (Value.bool b)) (decide_eq_true (by omega)).symm | exact congrArg (fun b => some (Value.bool b)) (decide_eq_false (by omega)).symm | exact congrArg (fun b => some (Value.bool b)) (decide_eq_decide.2 (by omega))) (Fr.Sub.nil _)) (Fr.Sub.cons rfl (Fr.Sub.cons rfl (Fr.Sub.cons rfl (Fr.Sub.cons rfl (Fr.Sub.cons rfl (Fr.Sub.nil _)))))) (HSub.pick 0 rfl (HSub.pick 0 rfl (HSub.pick 0 rfl (HSub.nil _))))
          · have h43 := of_decide_eq_false h43
            refine RunL.off rfl rfl rfl ?_
            refine RunL.off rfl rfl rfl ?_
            refine RunL.off rfl rfl rfl ?_
            refine RunL.off rfl rfl rfl ?_
            refine RunL.off rfl rfl rfl ?_
            refine RunL.off rfl rfl rfl ?_
            refine RunL.off rfl rfl rfl ?_
            refine RunL.still rfl rfl rfl (Still.pickF rfl rfl rfl) ?_
            refine RunL.nil ?_
            exact Ends.meet1 (Fr.Sub.cons (by first | exact congrArg (fun b => some (Value.bool b)) (decide_eq_true (by omega)).symm | exact congrArg (fun b => some (Value.bool b)) (decide_eq_false (by omega)).symm | exact congrArg (fun b => some (Value.bool b)) (decide_eq_decide.2 (by omega))) (Fr.Sub.nil _)) (Fr.Sub.cons rfl (Fr.Sub.cons rfl (Fr.Sub.cons rfl (Fr.Sub.cons rfl (Fr.Sub.cons rfl (Fr.Sub.nil _)))))) (HSub.pick 0 rfl (HSub.pick 0 rfl (HSub.pick 0 rfl (HSub.nil _))))
        ·
          refine Ends.then ?_
          refine RunC.cond rfl (fun h51 => ?_) (fun h51 => ?_)
          · have h51 := of_decide_eq_true h51
            refine RunC.seq ?_
            refine RunC.region ?_
            refine RunL.still rfl rfl rfl (Still.assign rfl rfl) ?_
            refine RunL.nil ?_
            refine Ends.then ?_
            refine RunC.ret ?_
            refine Ends.then_ret ?_
            refine Ends.block_ret ?_
            refine Ends.then_ret ?_
            refine Ends.then_ret ?_
            refine Ends.block_ret ?_
            refine Ends.then_ret ?_
            refine Ends.leave (.inl rfl) (fun _ _ ok => results1 Tryz.results34 (Holds.tmp rfl) ok) (fun w2 hs => ?_)
            exact Ret.intro () trivial (soundB_false (fun h => h51 (h.2.2.2.1 x (List.mem_of_getElem? hx)).1)) (HSub.nil _) hs
          · have h51 := of_decide_eq_false h51
            refine RunC.skip ?_
            refine Ends.then ?_
            refine RunC.seq ?_
            refine RunC.region ?_
            refine RunL.still rfl rfl rfl (Still.assign rfl rfl) ?_
            refine RunL.nil ?_
            refine Ends.then ?_
            refine RunC.block ?_
            refine RunC.loop2 (γ := Nat) (keep := [(1, _), (3, _), (4, _), (5, _), (6, _)]) (hkeep := [_]) (fun p => p ≤ 4 ∧ ∀ p', p' < p → 0 ≤ x.arc p' ∧ x.arc p' < 2 * d.cross.length) (fun p => 4 - p) (fun p => [(7, iv p)]) (fun p => [HL.own 3 1 (.slice (some ⟨b27, 0, none⟩) (2 * d.cross.length) (2 * d.cross.length)) (2 * d.cross.length) (ints (cntL d false (4 * c + p))), HL.own 3 1 (.slice (some ⟨b30, 0, none⟩) (2 * d.cross.length) (2 * d.cross.length)) (2 * d.cross.length) (ints (cntL d true (4 * c + p)))]) 0 ⟨by omega, fun i hi => by omega⟩ (Fr.Sub.cons rfl (Fr.Sub.nil _)) (Fr.Sub.cons rfl (Fr.Sub.cons rfl (Fr.Sub.cons rfl (Fr.Sub.cons rfl (Fr.Sub.cons rfl (Fr.Sub.nil _)))))) (HSub.pick 0 rfl (HSub.pick 0 rfl (HSub.pick 0 rfl (HSub.nil _)))) ?_
            rintro p ⟨hp, hg2⟩
            refine RunC.seq ?_
            refine RunC.seq ?_
            refine RunC.region ?_
            refine RunL.still rfl rfl rfl (Still.move rfl rfl) ?_
            refine RunL.still rfl rfl rfl (Still.lss rfl rfl rfl) ?_
            refine RunL.nil ?_
            refine Ends.then ?_
            refine RunC.cond rfl (fun h53 => ?_) (fun h53 => ?_)
            · have h53 := of_decide_eq_true h53
              have hp4 : p < 4 := by omega
              refine RunC.skip ?_
              refine Ends.then ?_
              refine RunC.seq ?_
              refine RunC.block ?_
              refine RunC.seq ?_
              refine RunC.region ?_
              refine RunL.still rfl rfl rfl (Still.fieldAddrL (off := 0) (off' := 0) rfl rfl Tryz.underlying24 rfl Tryz.sizeOf22 rfl) ?_
              refine RunL.still rfl rfl rfl (Still.load rfl rfl Tryz.isAgg22 (fun _ hs => cell_nth (hs.at (i := 2) rfl) rfl)) ?_
              refine RunL.still rfl rfl rfl (Still.move rfl rfl) ?_
              refine RunL.still rfl rfl rfl (Still.move rfl rfl) ?_
              refine RunL.still rfl rfl rfl (Still.indexSliceN rfl rfl rfl Tryz.underlying22 Tryz.sizeOf62 (hd.base (by omega)) (by omega)) ?_
              refine RunL.still rfl rfl rfl (Still.fieldAddrA (off := 0) rfl rfl Tryz.underlying62 rfl Tryz.sizeOf60 rfl) ?_
              refine RunL.still rfl rfl rfl (Still.indexArrN rfl rfl rfl Tryz.underlying60 Tryz.sizeOf3 (by omega)) ?_
              refine RunL.still rfl rfl rfl (Still.load rfl rfl Tryz.isAgg3 (fun _ hs => hs.base0 (hd.arc hx hp4))) ?_
              refine RunL.still rfl rfl rfl (Still.assign rfl rfl) ?_
              refine RunL.nil ?_
              refine Ends.then ?_
              refine RunC.seq ?_
              refine RunC.seq ?_
              refine RunC.meet1 (chg := [(71, .bool (decide (x.arc p < 0 ∨ 2 * (d.cross.length : Int) ≤ x.arc p)))]) (keep := [(1, _), (3, _), (4, _), (5, _), (6, _), (7, _), (8, _)]) (hkeep := [_, _, _]) (Fr.Sub.cons rfl (Fr.Sub.cons rfl (Fr.Sub.cons rfl (Fr.Sub.cons rfl (Fr.Sub.cons rfl (Fr.Sub.cons rfl (Fr.Sub.cons rfl (Fr.Sub.nil _)))))))) (HSub.pick 0 rfl (HSub.pick 0 rfl (HSub.pick 0 rfl (HSub.nil _)))) ?_ ?_
              ·
                refine RunC.region ?_
                refine RunL.still rfl rfl rfl (Still.move rfl rfl) ?_
                refine RunL.still rfl rfl rfl (Still.lss rfl rfl rfl) ?_
                refine RunL.still rfl rfl rfl (Still.move rfl rfl) ?_
                refine RunL.split (t := 66) rfl (fun h66 => ?_) (fun h66 => ?_)
                · have h66 := of_decide_eq_true h66
                  refine RunL.off rfl rfl rfl ?_
                  refine RunL.off rfl rfl rfl ?_
                  refine RunL.off rfl rfl rfl ?_
                  refine RunL.off rfl rfl rfl ?_
                  refine RunL.still rfl rfl rfl (Still.pickT rfl rfl rfl) ?_
                  refine RunL.nil ?_
                  exact Ends.meet1 (Fr.Sub.cons (by first | exact congrArg (fun b => some (Value.bool b)) (decide_eq_true (by omega)).symm | exact congrArg (fun b => some (Value.bool b)) (decide_eq_false (by omega)).symm | exact congrArg (fun b => some (Value.bool b)) (decide_eq_decide.2 (by omega))) (Fr.Sub.nil _)) (Fr.Sub.cons rfl (Fr.Sub.cons rfl (Fr.Sub.cons rfl (Fr.Sub.cons rfl (Fr.Sub.cons rfl (Fr.Sub.cons rfl (Fr.Sub.cons rfl (Fr.Sub.nil _)))))))) (HSub.pick 0 rfl (HSub.pick 0 rfl (HSub.pick 0 rfl (HSub.nil _))))
                · have h66 := of_decide_eq_false h66
                  refine RunL.still rfl rfl rfl (Still.move rfl rfl) ?_
                  refine RunL.still rfl rfl rfl (Still.move rfl rfl) ?_
                  refine RunL.still rfl rfl rfl (Still.mul rfl rfl rfl (fits64 (by omega) (by omega))) ?_
                  refine RunL.still rfl rfl rfl (Still.geq rfl rfl rfl) ?_
                  refine RunL.still rfl rfl rfl (Still.pickF rfl rfl rfl) ?_
                  refine RunL.nil ?_
                  exact Ends.meet1 (Fr.Sub.cons (by first | exact congrArg (fun b => some (Value.bool b)) (decide_eq_true (by omega)).symm | exact congrArg (fun b => some (Value.bool b)) (decide_eq_false (by omega)).symm | exact congrArg (fun b => some (Value.bool b)) (decide_eq_decide.2 (by omega))) (Fr.Sub.nil _)) (Fr.Sub.cons rfl (Fr.Sub.cons rfl (Fr.Sub.cons rfl (Fr.Sub.cons rfl (Fr.Sub.cons rfl (Fr.Sub.cons rfl (Fr.Sub.cons rfl (Fr.Sub.nil _)))))))) (HSub.pick 0 rfl (HSub.pick 0 rfl (HSub.pick 0 rfl (HSub.nil _))))
              ·
                refine Ends.then ?_
                refine RunC.cond rfl (fun h71 => ?_) (fun h71 => ?_)
                · have h71 := of_decide_eq_true h71
                  refine RunC.seq ?_
                  refine RunC.region ?_
                  refine RunL.still rfl rfl rfl (Still.assign rfl rfl) ?_
                  refine RunL.nil ?_
                  refine Ends.then ?_
                  refine RunC.ret ?_
                  refine Ends.then_ret ?_
                  refine Ends.block_ret ?_
                  refine Ends.then_ret ?_
                  refine Ends.then_ret ?_
                  refine Ends.block_ret ?_
                  refine Ends.block_ret ?_
                  refine Ends.then_ret ?_
                  refine Ends.then_ret ?_
                  refine Ends.block_ret ?_
                  refine Ends.then_ret ?_
                  refine Ends.leave (.inl rfl) (fun _ _ ok => results1 Tryz.results34 (Holds.tmp rfl) ok) (fun w3 hs => ?_)
                  exact Ret.intro () trivial (soundB_false (fun h => by have := (h.2.2.2.1 x (List.mem_of_getElem? hx)).2 p hp4; omega)) (HSub.nil _) hs
                · have h71 := of_decide_eq_false h71
                  refine RunC.skip ?_
                  refine Ends.then ?_
                  refine RunC.seq ?_
                  refine RunC.region ?_
                  refine RunL.still rfl rfl rfl (Still.fieldAddrL (off := 0) (off' := 0) rfl rfl Tryz.underlying24 rfl Tryz.sizeOf22 rfl) ?_
                  refine RunL.still rfl rfl rfl (Still.load rfl rfl Tryz.isAgg22 (fun _ hs => cell_nth (hs.at (i := 2) rfl) rfl)) ?_
                  refine RunL.still rfl rfl rfl (Still.move rfl rfl) ?_
                  refine RunL.still rfl rfl rfl (Still.indexSliceN rfl rfl rfl Tryz.underlying22 Tryz.sizeOf62 (hd.base (by omega)) (by omega)) ?_
                  refine RunL.still rfl rfl rfl (Still.loads rfl rfl Tryz.isAgg62 Tryz.sizeOf62 (vs := encCr x) rfl (fun _ hs => Cells.base0 (hd.cross hx) hs)) ?_
                  refine RunL.still rfl rfl rfl (Still.move rfl rfl) ?_
                  refine RunL.grows rfl rfl rfl (Grows.call (vs := #[_, _]) rfl rfl Tryz.call72 (fun w hs => ref_In x p w)) (fun _ _ => ?_)
                  refine RunL.nil ?_
                  refine Ends.then ?_
                  refine RunC.cond rfl (fun h78 => ?_) (fun h78 => ?_)
                  · skip
                    refine RunC.region ?_
                    have hm : x.arc p = ((x.arc p).toNat : Int) := arc_nat (by omega)
                    have hcb := cnt_bound d ((x.arc p).toNat : Int) true (4 * c + p)
                    refine RunL.still rfl rfl rfl (Still.move rfl rfl) ?_
                    refine RunL.still rfl rfl rfl (Still.move rfl rfl) ?_
                    refine RunL.still rfl rfl rfl (Still.indexOwnI (m := (x.arc p).toNat) rfl rfl rfl Tryz.underlying36 Tryz.sizeOf3 (fun _ hs => hs.own (i := 1) rfl) (hm) (by omega)) ?_
                    refine RunL.still rfl rfl rfl (Still.load rfl rfl Tryz.isAgg3 (fun w hs => own_at (hs.own (i := 1) rfl) (ints_get (cntL_get (by omega))))) ?_
                    refine RunL.still rfl rfl rfl (Still.add rfl rfl rfl (fits64 (by omega) (by omega))) ?_
                    refine RunL.still rfl rfl rfl (Still.indexOwnI (m := (x.arc p).toNat) rfl rfl rfl Tryz.underlying36 Tryz.sizeOf3 (fun _ hs => hs.own (i := 1) rfl) (hm) (by omega)) ?_
                    refine RunL.does0 rfl rfl (Does.storeOwn1 (xs' := (ints (cntL d true (4 * c + (p + 1))))) rfl rfl rfl rfl (i := 1) rfl Tryz.sizeOf3 rfl (by simp [cntL_len]; omega) ((ints_set _ _ _).trans (congrArg ints (cntL_set hx hp4 h78 hm (by omega))))) (fun _ _ => ?_)
                    refine RunL.nil ?_
                    refine Ends.block ?_
                    refine Ends.then ?_
                    refine RunC.region ?_
                    refine RunL.still rfl rfl rfl (Still.move rfl rfl) ?_
                    refine RunL.still rfl rfl rfl (Still.add rfl rfl rfl (fits64 (by omega) (by omega))) ?_
                    refine RunL.still rfl rfl rfl (Still.assign rfl rfl) ?_
                    refine RunL.nil ?_
                    refine Ends.again (p + 1) ?_ ?_ (Fr.Sub.app ?_ ?_) ?_
                    · exact ⟨by omega, fun p' h' => by rcases Nat.lt_or_ge p' p with h | h; exact hg2 p' h; obtain rfl : p' = p := (by omega); exact ⟨by omega, by omega⟩⟩
                    · show _ < _; omega
                    · exact Fr.Sub.cons rfl (Fr.Sub.nil _)
                    · exact Fr.Sub.cons rfl (Fr.Sub.cons rfl (Fr.Sub.cons rfl (Fr.Sub.cons rfl (Fr.Sub.cons rfl (Fr.Sub.nil _)))))
                    · exact HSub.pick 0 (by rw [cntL_same (inn := false) hx hp4 (by rw [h78]; simp)]; rfl) (HSub.pick 0 rfl (HSub.pick 0 rfl (HSub.nil _)))
                  · skip
                    refine RunC.region ?_
                    have hm : x.arc p = ((x.arc p).toNat : Int) := arc_nat (by omega)
                    have hcb := cnt_bound d ((x.arc p).toNat : Int) false (4 * c + p)
                    refine RunL.still rfl rfl rfl (Still.move rfl rfl) ?_
                    refine RunL.still rfl rfl rfl (Still.move rfl rfl) ?_
                    refine RunL.still rfl rfl rfl (Still.indexOwnI (m := (x.arc p).toNat) rfl rfl rfl Tryz.underlying36 Tryz.sizeOf3 (fun _ hs => hs.own (i := 0) rfl) (hm) (by omega)) ?_
                    refine RunL.still rfl rfl rfl (Still.load rfl rfl Tryz.isAgg3 (fun w hs => own_at (hs.own (i := 0) rfl) (ints_get (cntL_get (by omega))))) ?_
                    refine RunL.still rfl rfl rfl (Still.add rfl rfl rfl (fits64 (by omega) (by omega))) ?_
                    refine RunL.still rfl rfl rfl (Still.indexOwnI (m := (x.arc p).toNat) rfl rfl rfl Tryz.underlying36 Tryz.sizeOf3 (fun _ hs => hs.own (i := 0) rfl) (hm) (by omega)) ?_
                    refine RunL.does0 rfl rfl (Does.storeOwn1 (xs' := (ints (cntL d false (4 * c + (p + 1))))) rfl rfl rfl rfl (i := 0) rfl Tryz.sizeOf3 rfl (by simp [cntL_len]; omega) ((ints_set _ _ _).trans (congrArg ints (cntL_set hx hp4 h78 hm (by omega))))) (fun _ _ => ?_)
                    refine RunL.nil ?_
                    refine Ends.block ?_
                    refine Ends.then ?_
                    refine RunC.region ?_
                    refine RunL.still rfl rfl rfl (Still.move rfl rfl) ?_
                    refine RunL.still rfl rfl rfl (Still.add rfl rfl rfl (fits64 (by omega) (by omega))) ?_
                    refine RunL.still rfl rfl rfl (Still.assign rfl rfl) ?_
                    refine RunL.nil ?_
                    refine Ends.again (p + 1) ?_ ?_ (Fr.Sub.app ?_ ?_) ?_
                    · exact ⟨by omega, fun p' h' => by rcases Nat.lt_or_ge p' p with h | h; exact hg2 p' h; obtain rfl : p' = p := (by omega); exact ⟨by omega, by omega⟩⟩
                    · show _ < _; omega
                    · exact Fr.Sub.cons rfl (Fr.Sub.nil _)
                    · exact Fr.Sub.cons rfl (Fr.Sub.cons rfl (Fr.Sub.cons rfl (Fr.Sub.cons rfl (Fr.Sub.cons rfl (Fr.Sub.nil _)))))
                    · exact HSub.pick 0 rfl (HSub.pick 0 (by rw [cntL_same (inn := true) hx hp4 (by rw [h78]; simp)]; rfl) (HSub.pick 0 rfl (HSub.nil _)))
            · have h53 := of_decide_eq_false h53
              have hp4 : p = 4 := by omega
              refine RunC.exit ?_
              refine Ends.then_exit ?_
              refine Ends.then_exit ?_
              refine Ends.block_exit ?_
              refine Ends.block ?_
              refine Ends.then ?_
              refine RunC.region ?_
              refine RunL.still rfl rfl rfl (Still.move rfl rfl) ?_
              refine RunL.still rfl rfl rfl (Still.add rfl rfl rfl (fits64 (by omega) (by omega))) ?_
              refine RunL.still rfl rfl rfl (Still.assign rfl rfl) ?_
              refine RunL.nil ?_
              obtain rfl : p = 4 := by omega
              refine Ends.again (c + 1) ?_ ?_ (Fr.Sub.app ?_ ?_) ?_
              · exact ⟨by omega, fun i y hi hy => by rcases Nat.lt_or_ge i c with h | h; exact hg i y h hy; obtain rfl : i = c := (by omega); rw [hx] at hy; cases hy; exact ⟨by omega, hg2⟩⟩
              · show _ < _; omega
              · exact Fr.Sub.cons rfl (Fr.Sub.nil _)
              · exact Fr.Sub.cons rfl (Fr.Sub.cons rfl (Fr.Sub.cons rfl (Fr.Sub.cons rfl (Fr.Sub.nil _))))
              · exact HSub.pick 0 rfl (HSub.pick 0 rfl (HSub.pick 0 rfl (HSub.nil _)))
      · have h33 := of_decide_eq_false h33
        obtain rfl : c = d.cross.length := by omega
        refine RunC.exit ?_
        refine Ends.then_exit ?_
        refine Ends.then_exit ?_
        refine Ends.block_exit ?_
        refine Ends.then ?_
        refine RunC.seq ?_
        refine RunC.seq ?_
        refine RunC.region ?_
        refine RunL.still rfl rfl rfl (Still.assign rfl rfl) ?_
        refine RunL.nil ?_
        refine Ends.then ?_
        refine RunC.block ?_
        refine RunC.loop2 (γ := Nat) (keep := [(3, _), (4, _), (5, _)]) (hkeep := [_, _, _]) (fun a => a ≤ 2 * d.cross.length ∧ ∀ a', a' < a → cnt d (a' : Int) false (4 * d.cross.length) = 1 ∧ cnt d (a' : Int) true (4 * d.cross.length) = 1) (fun a => 2 * d.cross.length - a) (fun a => [(9, iv a)]) (fun a => []) 0 ⟨by omega, fun i hi => by omega⟩ (Fr.Sub.cons rfl (Fr.Sub.nil _)) (Fr.Sub.cons rfl (Fr.Sub.cons rfl (Fr.Sub.cons rfl (Fr.Sub.nil _)))) (HSub.pick 0 rfl (HSub.pick 0 rfl (HSub.pick 0 rfl (HSub.nil _)))) ?_
        rintro a ⟨ha, hg3⟩
        refine RunC.seq ?_
        refine RunC.seq ?_
        refine RunC.region ?_
        refine RunL.still rfl rfl rfl (Still.move rfl rfl) ?_
        refine RunL.still rfl rfl rfl (Still.move rfl rfl) ?_
        refine RunL.still rfl rfl rfl (Still.mul rfl rfl rfl (fits64 (by omega) (by omega))) ?_
        refine RunL.still rfl rfl rfl (Still.lss rfl rfl rfl) ?_
        refine RunL.nil ?_
        refine Ends.then ?_
        refine RunC.cond rfl (fun h94 => ?_) (fun h94 => ?_)
        · have h94 := of_decide_eq_true h94
          refine RunC.skip ?_
          refine Ends.then ?_
          refine RunC.seq ?_
          refine RunC.block ?_
          refine RunC.seq ?_
          refine RunC.meet1 (chg := [(108, .bool (decide (¬ (cnt d (a : Int) false (4 * d.cross.length) = 1 ∧ cnt d (a : Int) true (4 * d.cross.length) = 1))))]) (keep := [(3, _), (4, _), (5, _), (9, _)]) (hkeep := [_, _, _]) (Fr.Sub.cons rfl (Fr.Sub.cons rfl (Fr.Sub.cons rfl (Fr.Sub.cons rfl (Fr.Sub.nil _))))) (HSub.pick 0 rfl (HSub.pick 0 rfl (HSub.pick 0 rfl (HSub.nil _)))) ?_ ?_
          ·
            refine RunC.region ?_
            refine RunL.still rfl rfl rfl (Still.move rfl rfl) ?_
            refine RunL.still rfl rfl rfl (Still.move rfl rfl) ?_
            refine RunL.still rfl rfl rfl (Still.indexOwn rfl rfl rfl Tryz.underlying36 Tryz.sizeOf3 (fun _ hs => hs.own (i := 0) rfl) (by omega)) ?_
            refine RunL.still rfl rfl rfl (Still.load rfl rfl Tryz.isAgg3 (fun w hs => own_at (hs.own (i := 0) rfl) (ints_get (cntL_get (by omega))))) ?_
            refine RunL.still rfl rfl rfl (Still.neq rfl rfl rfl) ?_
            refine RunL.still rfl rfl rfl (Still.move rfl rfl) ?_
            refine RunL.split (t := 102) rfl (fun h102 => ?_) (fun h102 => ?_)
            · have h102 := of_decide_eq_true h102
              refine RunL.off rfl rfl rfl ?_
              refine RunL.off rfl rfl rfl ?_
              refine RunL.off rfl rfl rfl ?_
              refine RunL.off rfl rfl rfl ?_
              refine RunL.off rfl rfl rfl ?_
              refine RunL.still rfl rfl rfl (Still.pickT rfl rfl rfl) ?_
              refine RunL.nil ?_
              exact Ends.meet1 (Fr.Sub.cons (by first | exact congrArg (fun b => some (Value.bool b)) (decide_eq_true (by omega)).symm | exact congrArg (fun b => some (Value.bool b)) (decide_eq_false (by omega)).symm | exact congrArg (fun b => some (Value.bool b)) (decide_eq_decide.2 (by omega))) (Fr.Sub.nil _)) (Fr.Sub.cons rfl (Fr.Sub.cons rfl (Fr.Sub.cons rfl (Fr.Sub.cons rfl (Fr.Sub.nil _))))) (HSub.pick 0 rfl (HSub.pick 0 rfl (HSub.pick 0 rfl (HSub.nil _))))
            · have h102 := of_decide_eq_false h102
              refine RunL.still rfl rfl rfl (Still.move rfl rfl) ?_
              refine RunL.still rfl rfl rfl (Still.move rfl rfl) ?_
              refine RunL.still rfl rfl rfl (Still.indexOwn rfl rfl rfl Tryz.underlying36 Tryz.sizeOf3 (fun _ hs => hs.own (i := 1) rfl) (by omega)) ?_
              refine RunL.still rfl rfl rfl (Still.load rfl rfl Tryz.isAgg3 (fun w hs => own_at (hs.own (i := 1) rfl) (ints_get (cntL_get (by omega))))) ?_
              refine RunL.still rfl rfl rfl (Still.neq rfl rfl rfl) ?_
              refine RunL.still rfl rfl rfl (Still.pickF rfl rfl rfl) ?_
              refine RunL.nil ?_
              exact Ends.meet1 (Fr.Sub.cons (by first | exact congrArg (fun b => some (Value.bool b)) (decide_eq_true (by omega)).symm | exact congrArg (fun b => some (Value.bool b)) (decide_eq_false (by omega)).symm | exact congrArg (fun b => some (Value.bool b)) (decide_eq_decide.2 (by omega))) (Fr.Sub.nil _)) (Fr.Sub.cons rfl (Fr.Sub.cons rfl (Fr.Sub.cons rfl (Fr.Sub.cons rfl (Fr.Sub.nil _))))) (HSub.pick 0 rfl (HSub.pick 0 rfl (HSub.pick 0 rfl (HSub.nil _))))
          ·
            refine Ends.then ?_
            refine RunC.cond rfl (fun h108 => ?_) (fun h108 => ?_)
            · have h108 := of_decide_eq_true h108
              refine RunC.seq ?_
              refine RunC.region ?_
              refine RunL.still rfl rfl rfl (Still.assign rfl rfl) ?_
              refine RunL.nil ?_
              refine Ends.then ?_
              refine RunC.ret ?_
              refine Ends.block_ret ?_
              refine Ends.then_ret ?_
              refine Ends.then_ret ?_
              refine Ends.block_ret ?_
              refine Ends.then_ret ?_
              refine Ends.leave (.inl rfl) (fun _ _ ok => results1 Tryz.results34 (Holds.tmp rfl) ok) (fun w4 hs => ?_)
              exact Ret.intro () trivial (soundB_false (fun h => h108 (h.2.2.2.2 a (by omega)))) (HSub.nil _) hs
            · have h108 := of_decide_eq_false h108
              refine RunC.skip ?_
              refine Ends.block ?_
              refine Ends.then ?_
              refine RunC.region ?_
              refine RunL.still rfl rfl rfl (Still.move rfl rfl) ?_
              refine RunL.still rfl rfl rfl (Still.add rfl rfl rfl (fits64 (by omega) (by omega))) ?_
              refine RunL.still rfl rfl rfl (Still.assign rfl rfl) ?_
              refine RunL.nil ?_
              refine Ends.again (a + 1) ?_ ?_ (Fr.Sub.app ?_ ?_) ?_
              · exact ⟨by omega, fun i hi => by rcases Nat.lt_or_ge i a with h | h; exact hg3 i h; obtain rfl : i = a := (by omega); omega⟩
              · show _ < _; omega
              · exact Fr.Sub.cons rfl (Fr.Sub.nil _)
              · exact Fr.Sub.cons rfl (Fr.Sub.cons rfl (Fr.Sub.cons rfl (Fr.Sub.nil _)))
              · exact HSub.pick 0 rfl (HSub.pick 0 rfl (HSub.pick 0 rfl (HSub.nil _)))
        · have h94 := of_decide_eq_false h94
          refine RunC.exit ?_
          refine Ends.then_exit ?_
          refine Ends.then_exit ?_
          refine Ends.block_exit ?_
          refine Ends.then ?_
          refine RunC.seq ?_
          refine RunC.region ?_
          refine RunL.still rfl rfl rfl (Still.assign rfl rfl) ?_
          refine RunL.nil ?_
          refine Ends.then ?_
          refine RunC.ret ?_
          refine Ends.leave (.inl rfl) (fun _ _ ok => results1 Tryz.results34 (Holds.tmp rfl) ok) (fun w5 hs => ?_)
          exact Ret.intro () trivial (soundB_true ⟨by omega, by omega, by omega, fun y hy => by obtain ⟨i, hi⟩ := List.getElem?_of_mem hy; exact hg i y (by have := (List.getElem?_eq_some_iff.1 hi).1; omega) hi, fun a' ha' => hg3 a' (by omega)⟩) (HSub.nil _) hs

theorem ref_OtherQ (base : Option Addr) (A : Addr) (cap : Nat) (d : Dia) (q : Nat) (w : World) (hd : DiaAt w base A d) (hs0 : SoundP d) (hq : q < 4 * d.cross.length) : Gives Tryz.prog 88 #[diaV base cap d, .agg #[iv ((q / 4 : Nat) : Int), iv ((q % 4 : Nat) : Int)]] w Nil (fun _ : Unit => True) (fun _ => .agg #[iv ((otherQ d q / 4 : Nat) : Int), iv ((otherQ d q % 4 : Nat) : Int)]) (fun _ => []) := by
  have h := ref_Other base A cap d (q / 4) (q % 4) (crAt d (q / 4)) w hd (crAt_get (by omega)) (by omega)
  have e := hs0.other hq
  simp only [arcQ, innQ] at e
  rw [e] at h
  exact h

theorem ref_has (v : Value) (qs : List Nat) (c p : Nat) (w : World) (hv : Shape v qs.length) (hc : Cells w (vaddr v) (qs.flatMap encQ)) (hl : qs.length ≤ 100000) (hp : p < 4) : Gives Tryz.prog 101 #[v, .agg #[iv c, iv p]] w Nil (fun _ : Unit => True) (fun _ => .bool (qs.contains (4 * c + p))) (fun _ => []) := by
  refine fn_of_run (S := Nil) (args := [v, .agg #[iv c, iv p]]) (n := 18) (L := []) Tryz.func101 rfl Tryz.ntmps101 (Nat.le_of_ble_eq_true rfl) (Sym.nil _ _) ?_
  change RunC _ _ _ [(0, _), (1, _)] _
  refine RunC.seq ?_
  refine RunC.region ?_
  refine RunL.grows rfl rfl rfl (Grows.box rfl rfl) (fun b3 _ => ?_)
  refine RunL.still rfl rfl rfl (Still.assign rfl rfl) ?_
  refine RunL.nil ?_
  refine Ends.then ?_
  refine RunC.seq ?_
  refine RunC.seq ?_
  refine RunC.region ?_
  refine RunL.still rfl rfl rfl (Still.assign rfl rfl) ?_
  refine RunL.nil ?_
  refine Ends.then ?_
  refine RunC.block ?_
  refine RunC.loop2 (γ := Nat) (keep := [(0, _), (3, _)]) (hkeep := [_]) (fun i => i ≤ qs.length ∧ ∀ j q, j < i → qs[j]? = some q → q ≠ 4 * c + p) (fun i => qs.length - i) (fun i => [(5, iv i)]) (fun i => []) 0 ⟨by omega, fun j q hj => by omega⟩ (Fr.Sub.cons rfl (Fr.Sub.nil _)) (Fr.Sub.cons rfl (Fr.Sub.cons rfl (Fr.Sub.nil _))) (HSub.pick 0 rfl (HSub.nil _)) ?_
  rintro i ⟨hi, hno⟩
  refine RunC.seq ?_
  refine RunC.seq ?_
  refine RunC.region ?_
  refine RunL.still rfl rfl rfl (Still.move rfl rfl) ?_
  refine RunL.still rfl rfl rfl (Still.move rfl rfl) ?_
  refine RunL.still rfl rfl rfl (Still.lenV rfl rfl Tryz.underlying113 (hv)) ?_
  refine RunL.still rfl rfl rfl (Still.lss rfl rfl rfl) ?_
  refine RunL.nil ?_
  refine Ends.then ?_
  refine RunC.cond rfl (fun h9 => ?_) (fun h9 => ?_)
  · have h9 := of_decide_eq_true h9
    obtain ⟨q, hq⟩ := get_of_lt (l := qs) (i := i) (by omega)
    refine RunC.skip ?_
    refine Ends.then ?_
    refine RunC.seq ?_
    refine RunC.block ?_
    refine RunC.seq ?_
    refine RunC.draw 5 (.still 0 (.still 1 (.still 2 (.still 3 (.still 4 .done))))) (by kernel_rfl) (by kernel_rfl) ?_
    refine RunG.still rfl rfl rfl rfl (Still.move rfl rfl) ?_
    refine RunG.still rfl rfl rfl rfl (Still.move rfl rfl) ?_
    refine RunG.still rfl rfl rfl rfl (Still.indexV _ rfl rfl rfl Tryz.underlying113 Tryz.sizeOf110 (hv) (rfl) (by omega)) ?_
    refine RunG.still rfl rfl rfl rfl (Still.loads rfl rfl Tryz.isAgg110 Tryz.sizeOf110 (vs := [iv ((q / 4 : Nat) : Int), iv ((q % 4 : Nat) : Int)]) rfl (fun _ hs => cells_part (Cells.base0 hc hs) (encQ_at hq))) ?_
    refine RunG.still rfl rfl rfl rfl (Still.loads rfl rfl Tryz.isAgg110 Tryz.sizeOf110 (vs := [_, _]) rfl (fun _ hs => cells_nth (hs.at (i := 0) rfl) ⟨rfl, ⟨rfl, trivial⟩⟩)) ?_
    refine RunG.done ?_
    show RunL _ _ _ [_] _ _
    refine RunL.still rfl rfl rfl (Still.eqlAgg rfl rfl rfl Tryz.eqGuardType110 (fun _ => eq_two Tryz.underlying110 Tryz.stoodInHeld110 Tryz.underlying3 Tryz.underlying3 (by decide) (by decide) rfl rfl _ _ _ _ _ _)) ?_
    refine RunL.nil ?_
    refine Ends.then ?_
    refine RunC.cond rfl (fun h17 => ?_) (fun h17 => ?_)
    · have h17 := of_decide_eq_true h17
      refine RunC.seq ?_
      refine RunC.region ?_
      refine RunL.still rfl rfl rfl (Still.assign rfl rfl) ?_
      refine RunL.nil ?_
      refine Ends.then ?_
      refine RunC.ret ?_
      refine Ends.block_ret ?_
      refine Ends.then_ret ?_
      refine Ends.then_ret ?_
      refine Ends.block_ret ?_
      refine Ends.then_ret ?_
      refine Ends.leave (.inl rfl) (fun _ _ ok => results1 Tryz.results101 (Holds.tmp rfl) ok) (fun w1 hs => ?_)
      exact Ret.intro () trivial (congrArg Value.bool (List.contains_iff_mem.2 (by have e : q = 4 * c + p := (by omega); rw [← e]; exact List.mem_of_getElem? hq)).symm) (HSub.nil _) hs
    · have h17 := of_decide_eq_false h17
      refine RunC.skip ?_
      refine Ends.block ?_
      refine Ends.then ?_
      refine RunC.region ?_
      refine RunL.still rfl rfl rfl (Still.move rfl rfl) ?_
      refine RunL.still rfl rfl rfl (Still.add rfl rfl rfl (fits64 (by omega) (by omega))) ?_
      refine RunL.still rfl rfl rfl (Still.assign rfl rfl) ?_
      refine RunL.nil ?_
      refine Ends.again (i + 1) ?_ ?_ (Fr.Sub.app ?_ ?_) ?_
      · exact ⟨by omega, fun j q' hj hq' => by rcases Nat.lt_or_ge j i with h | h; exact hno j q' h hq'; obtain rfl : j = i := (by omega); rw [hq] at hq'; cases hq'; omega⟩
      · show _ < _; omega
      · exact Fr.Sub.cons rfl (Fr.Sub.nil _)
      · exact Fr.Sub.cons rfl (Fr.Sub.cons rfl (Fr.Sub.nil _))
      · exact HSub.pick 0 rfl (HSub.nil _)
  · have h9 := of_decide_eq_false h9
    refine RunC.exit ?_
    refine Ends.then_exit ?_
    refine Ends.then_exit ?_
    refine Ends.block_exit ?_
    refine Ends.then ?_
    refine RunC.seq ?_
    refine RunC.region ?_
    refine RunL.still rfl rfl rfl (Still.assign rfl rfl) ?_
    refine RunL.nil ?_
    refine Ends.then ?_
    refine RunC.ret ?_
    refine Ends.leave (.inl rfl) (fun _ _ ok => results1 Tryz.results101 (Holds.tmp rfl) ok) (fun w2 hs => ?_)
    exact Ret.intro () trivial (congrArg Value.bool (Bool.eq_false_iff.2 (fun hm => by obtain ⟨j, hj⟩ := List.getElem?_of_mem (List.contains_iff_mem.1 hm); exact hno j _ (by have := (List.getElem?_eq_some_iff.1 hj).1; omega) hj rfl)).symm) (HSub.nil _) hs

theorem ref_Region (base : Option Addr) (A : Addr) (cap : Nat) (d : Dia) (q0 : Nat) (w : World) (hd : DiaAt w base A d) (hs0 : SoundP d) (hq0 : q0 < 4 * d.cross.length) : Gives Tryz.prog 102 #[diaV base cap d, .agg #[iv ((q0 / 4 : Nat) : Int), iv ((q0 % 4 : Nat) : Int)]] w Nil (fun v : Value => Shape v (regionOf d q0).length) (fun v => v) (fun v => [HL.own 110 2 v (regionOf d q0).length ((regionOf d q0).flatMap encQ)]) := by
  have h200 := hs0.1
  obtain ⟨j0, hj0, hb0⟩ := hs0.back hq0
  refine fn_of_run (S := Nil) (args := [diaV base cap d, .agg #[iv ((q0 / 4 : Nat) : Int), iv ((q0 % 4 : Nat) : Int)]]) (n := 33) (L := []) Tryz.func102 rfl Tryz.ntmps102 (Nat.le_of_ble_eq_true rfl) (Sym.nil _ _) ?_
  change RunC _ _ _ [(0, _), (1, _)] _
  refine RunC.seq ?_
  refine RunC.region ?_
  refine RunL.grows rfl rfl rfl (Grows.box rfl rfl) (fun b2 _ => ?_)
  refine RunL.grows rfl rfl rfl (Grows.box rfl rfl) (fun b3 _ => ?_)
  refine RunL.still rfl rfl rfl (Still.assign rfl rfl) ?_
  refine RunL.nil ?_
  refine Ends.then ?_
  refine RunC.seq ?_
  refine RunC.region ?_
  refine RunL.still rfl rfl rfl (Still.loads rfl rfl Tryz.isAgg110 Tryz.sizeOf110 (vs := [_, _]) rfl (fun _ hs => cells_nth (hs.at (i := 0) rfl) ⟨rfl, ⟨rfl, trivial⟩⟩)) ?_
  refine RunL.grows rfl rfl rfl (Grows.slice1 rfl rfl Tryz.underlying113 Tryz.sizeOf110 rfl Tryz.zeroValue110 (by decide)) (fun b9 _ => ?_)
  refine RunL.conv (fun _ hs => Sym.obj_own (k := 2) (n := 1) hs rfl (by omega)) ?_
  refine RunL.still rfl rfl rfl (Still.assign rfl rfl) ?_
  refine RunL.nil ?_
  refine Ends.then ?_
  refine RunC.block ?_
  refine RunC.loop2 (γ := Value × List Nat × Nat × Nat) (keep := [(2, _), (3, _)]) (hkeep := [_, _]) (fun (v, pre, x, k) => x < 4 * d.cross.length ∧ pre ++ orbGo (stepQ d) q0 (k + 1) x = regionOf d q0 ∧ (∃ j, j ≤ k ∧ iter (stepQ d) (j + 1) x = q0) ∧ pre.length + k + 1 ≤ 4 * d.cross.length) (fun (v, pre, x, k) => k) (fun (v, pre, x, k) => [(5, v)]) (fun (v, pre, x, k) => [HL.own 110 2 v (pre.length + 1) ((pre ++ [x]).flatMap encQ)]) (.slice (some ⟨b9, 0, none⟩) 1 1, [], q0, 4 * d.cross.length - 1) ⟨hq0, by rw [show 4 * d.cross.length - 1 + 1 = 4 * d.cross.length by omega]; rfl, ⟨j0, hj0, hb0⟩, by show 0 + _ + 1 ≤ _; omega⟩ (Fr.Sub.cons rfl (Fr.Sub.nil _)) (Fr.Sub.cons rfl (Fr.Sub.cons rfl (Fr.Sub.nil _))) (HSub.pick 0 rfl (HSub.pick 0 rfl (HSub.pick 0 rfl (HSub.nil _)))) ?_
  rintro ⟨v, pre, x, k⟩ ⟨hx, hR, hj, hlen⟩
  refine RunC.block ?_
  refine RunC.seq ?_
  refine RunC.meetG (γ := Nat) (keep := [(2, _), (3, _), (5, _)]) (hkeep := [_, _, _]) (fun b6 => True) (fun b6 => [(6, .pointer (some ⟨b6, 0, none⟩))]) (fun b6 => [HL.obj b6 (.cells #[iv ((otherQ d x / 4 : Nat) : Int), iv ((otherQ d x % 4 : Nat) : Int)] 110 (0, 0))]) (Fr.Sub.cons rfl (Fr.Sub.cons rfl (Fr.Sub.cons rfl (Fr.Sub.nil _)))) (HSub.pick 0 rfl (HSub.pick 0 rfl (HSub.pick 0 rfl (HSub.nil _)))) ?_ ?_
  ·
    refine RunC.draw 9 (.still 0 (.still 1 (.still 2 (.still 3 (.still 4 (.still 5 (.still 6 (.two 7 (.one 8 .done) 8 (.one 7 .done))))))))) (by kernel_rfl) (by kernel_rfl) ?_
    refine RunG.still rfl rfl rfl rfl (Still.loads rfl rfl Tryz.isAgg24 Tryz.sizeOf24 (vs := [_, _]) rfl (fun _ hs => cells_nth (hs.at (i := 2) rfl) ⟨rfl, ⟨rfl, trivial⟩⟩)) ?_
    refine RunG.still rfl rfl rfl rfl (Still.move rfl rfl) ?_
    refine RunG.still rfl rfl rfl rfl (Still.move rfl rfl) ?_
    refine RunG.still rfl rfl rfl rfl (Still.lenOwn rfl rfl Tryz.underlying113 (fun _ hs => hs.own (i := 0) rfl)) ?_
    refine RunG.still rfl rfl rfl rfl (Still.sub rfl rfl rfl (fits64 (by omega) (by omega))) ?_
    refine RunG.still rfl rfl rfl rfl (Still.indexOwnI (m := pre.length) rfl rfl rfl Tryz.underlying113 Tryz.sizeOf110 (fun _ hs => hs.own (i := 0) rfl) (by omega) (by omega)) ?_
    refine RunG.still rfl rfl rfl rfl (Still.loads rfl rfl Tryz.isAgg110 Tryz.sizeOf110 (vs := [iv ((x / 4 : Nat) : Int), iv ((x % 4 : Nat) : Int)]) rfl (fun w hs => own_cells (hs.own (i := 0) rfl) (encQ_at (qs := pre ++ [x]) (by simp)))) ?_
    refine RunG.two ?_ ?_
    ·
      refine RunG.grows rfl rfl rfl rfl (Grows.call (vs := #[_, _]) rfl rfl Tryz.call88 (fun w hs => ref_OtherQ base A cap d x w (hd.sym hs) hs0 hx)) (fun _ _ => ?_)
      refine RunG.grows rfl rfl rfl rfl (Grows.alloc rfl Tryz.zeroValue110) (fun b6 _ => ?_)
      refine RunG.done ?_
      show RunL _ _ _ [_] _ _
      refine RunL.does0 rfl rfl (Does.store rfl rfl rfl (i := 0) rfl Tryz.sizeOf110 rfl (rfl) rfl) (fun _ _ => ?_)
      refine RunL.nil ?_
      exact Ends.meetG b6 trivial (Fr.Sub.cons rfl (Fr.Sub.nil _)) (Fr.Sub.cons rfl (Fr.Sub.cons rfl (Fr.Sub.cons rfl (Fr.Sub.nil _)))) (HSub.pick 0 rfl (HSub.pick 0 rfl (HSub.pick 0 rfl (HSub.pick 0 rfl (HSub.nil _)))))
    ·
      refine RunG.grows rfl rfl rfl rfl (Grows.alloc rfl Tryz.zeroValue110) (fun b6 _ => ?_)
      refine RunG.grows rfl rfl rfl rfl (Grows.call (vs := #[_, _]) rfl rfl Tryz.call88 (fun w hs => ref_OtherQ base A cap d x w (hd.sym hs) hs0 hx)) (fun _ _ => ?_)
      refine RunG.done ?_
      show RunL _ _ _ [_] _ _
      refine RunL.does0 rfl rfl (Does.store rfl rfl rfl (i := 0) rfl Tryz.sizeOf110 rfl (rfl) rfl) (fun _ _ => ?_)
      refine RunL.nil ?_
      exact Ends.meetG b6 trivial (Fr.Sub.cons rfl (Fr.Sub.nil _)) (Fr.Sub.cons rfl (Fr.Sub.cons rfl (Fr.Sub.cons rfl (Fr.Sub.nil _)))) (HSub.pick 0 rfl (HSub.pick 0 rfl (HSub.pick 0 rfl (HSub.pick 0 rfl (HSub.nil _)))))
  · rintro b6 _
    refine Ends.then ?_
    refine RunC.seq ?_
    refine RunC.region ?_
    refine RunL.still rfl rfl rfl (Still.fieldAddrL (off := 0) (off' := 0) rfl rfl Tryz.underlying110 rfl Tryz.sizeOf3 rfl) ?_
    refine RunL.still rfl rfl rfl (Still.load rfl rfl Tryz.isAgg3 (fun _ hs => cell_nth (hs.at (i := 0) rfl) rfl)) ?_
    refine RunL.still rfl rfl rfl (Still.fieldAddrL (off := 0) (off' := 1) rfl rfl Tryz.underlying110 rfl Tryz.sizeOf3 rfl) ?_
    refine RunL.still rfl rfl rfl (Still.load rfl rfl Tryz.isAgg3 (fun _ hs => cell_nth (hs.at (i := 0) rfl) rfl)) ?_
    refine RunL.still rfl rfl rfl (Still.add rfl rfl rfl (fits64 (by omega) (by omega))) ?_
    refine RunL.still rfl rfl rfl (Still.remP rfl rfl rfl (by omega) (by omega)) ?_
    refine RunL.still rfl rfl rfl (Still.build_1_1 (fun x0_0 x1_0 => .agg #[x0_0, x1_0]) rfl rfl rfl (fun _ => by kernel_rfl)) ?_
    refine RunL.grows rfl rfl rfl (Grows.alloc rfl Tryz.zeroValue110) (fun b7 _ => ?_)
    refine RunL.does0 rfl rfl (Does.store rfl rfl rfl (i := 0) rfl Tryz.sizeOf110 rfl (rfl) rfl) (fun _ _ => ?_)
    refine RunL.nil ?_
    refine Ends.then ?_
    refine RunC.seq ?_
    refine RunC.seq ?_
    refine RunC.region ?_
    refine RunL.still rfl rfl rfl (Still.loads rfl rfl Tryz.isAgg110 Tryz.sizeOf110 (vs := [_, _]) rfl (fun _ hs => cells_nth (hs.at (i := 0) rfl) ⟨rfl, ⟨rfl, trivial⟩⟩)) ?_
    refine RunL.still rfl rfl rfl (Still.loads rfl rfl Tryz.isAgg110 Tryz.sizeOf110 (vs := [_, _]) rfl (fun _ hs => cells_nth (hs.at (i := 3) rfl) ⟨rfl, ⟨rfl, trivial⟩⟩)) ?_
    refine RunL.still rfl rfl rfl (Still.eqlAgg rfl rfl rfl Tryz.eqGuardType110 (fun _ => eq_two Tryz.underlying110 Tryz.stoodInHeld110 Tryz.underlying3 Tryz.underlying3 (by decide) (by decide) rfl rfl _ _ _ _ _ _)) ?_
    refine RunL.nil ?_
    refine Ends.then ?_
    refine RunC.cond rfl (fun h27 => ?_) (fun h27 => ?_)
    · have h27 := of_decide_eq_true h27
      refine RunC.seq ?_
      refine RunC.region ?_
      refine RunL.still rfl rfl rfl (Still.move rfl rfl) ?_
      refine RunL.still rfl rfl rfl (Still.assign rfl rfl) ?_
      refine RunL.nil ?_
      refine Ends.then ?_
      refine RunC.ret ?_
      refine Ends.then_ret ?_
      refine Ends.block_ret ?_
      refine Ends.then_ret ?_
      refine Ends.block_ret ?_
      have he : stepQ d x = q0 := by have := step_div d x; have := step_mod d x; omega
      have hRR : pre ++ [x] = regionOf d q0 := by rw [← hR, orbGo_last he]
      refine Ends.leave (.inl rfl) (fun _ _ ok => results1 Tryz.results102 (Holds.tmp rfl) ok) (fun w1 hs => ?_)
      exact Ret.intro v (by have h := own_shape (hs.own (i := 2) rfl); rw [← hRR, List.length_append]; exact h) rfl (HSub.pick 2 (by rw [← hRR, List.length_append]; rfl) (HSub.nil _)) hs
    · have h27 := of_decide_eq_false h27
      refine RunC.skip ?_
      refine Ends.then ?_
      refine RunC.region ?_
      refine RunL.still rfl rfl rfl (Still.move rfl rfl) ?_
      refine RunL.still rfl rfl rfl (Still.loads rfl rfl Tryz.isAgg110 Tryz.sizeOf110 (vs := [_, _]) rfl (fun _ hs => cells_nth (hs.at (i := 0) rfl) ⟨rfl, ⟨rfl, trivial⟩⟩)) ?_
      refine RunL.grows rfl rfl rfl (Grows.slice1 rfl rfl Tryz.underlying113 Tryz.sizeOf110 rfl Tryz.zeroValue110 (by decide)) (fun b31 _ => ?_)
      refine RunL.does rfl rfl rfl (Does.appendTo (n' := (pre.length + 1 + 1)) (xs' := ((pre ++ [x] ++ [stepQ d x]).flatMap encQ)) (news := [_, _]) rfl rfl rfl rfl (i := 3) rfl Tryz.underlying113 (by kernel_rfl : (_ : Option _) = some (some (.agg #[.int .i64 0, .int .i64 0]), 2, 16)) rfl rfl (fun _ hs => cells_nth (hs.at (i := 0) rfl) ⟨rfl, ⟨rfl, trivial⟩⟩) rfl rfl (by omega) (by omega) (rfl) (flatQ_snoc (by rw [step_div]) (by rw [step_mod]; omega))) (fun v32 hv32 => ?_)
      refine RunL.still rfl rfl rfl (Still.assign rfl rfl) ?_
      refine RunL.nil ?_
      refine Ends.block ?_
      have hne : ¬ stepQ d x = q0 := fun e => h27 ⟨by rw [← e, step_div], by rw [← e, step_mod]; omega⟩
      obtain ⟨j, hj1, hj2⟩ := hj
      have hj0 : j ≠ 0 := fun e => by subst e; exact hne hj2
      obtain ⟨k, rfl⟩ : ∃ m, k = m + 1 := ⟨k - 1, by omega⟩
      refine Ends.again (v32, pre ++ [x], stepQ d x, k) ?_ ?_ (Fr.Sub.app ?_ ?_) ?_
      · exact ⟨hs0.step_lt hx, by rw [← hR, orbGo_next hne]; simp, ⟨j - 1, by show j - 1 ≤ k; omega, by rw [show j - 1 + 1 = j by omega]; exact hj2⟩, by simp only [List.length_append, List.length_singleton]; omega⟩
      · exact Nat.lt_succ_self _
      · exact Fr.Sub.cons rfl (Fr.Sub.nil _)
      · exact Fr.Sub.cons rfl (Fr.Sub.cons rfl (Fr.Sub.nil _))
      · exact HSub.pick 3 (by simp only [List.length_append, List.length_singleton]; rfl) (HSub.pick 3 rfl (HSub.pick 3 rfl (HSub.nil _)))

theorem ref_RegionCP (base : Option Addr) (A : Addr) (cap : Nat) (d : Dia) (c p : Nat) (w : World) (hd : DiaAt w base A d) (hs0 : SoundP d) (hc : c < d.cross.length) (hp : p < 4) : Gives Tryz.prog 102 #[diaV base cap d, .agg #[iv c, iv p]] w Nil (fun v : Value => Shape v (regionOf d (4 * c + p)).length) (fun v => v) (fun v => [HL.own 110 2 v (regionOf d (4 * c + p)).length ((regionOf d (4 * c + p)).flatMap encQ)]) := by
  have h := ref_Region base A cap d (4 * c + p) w hd hs0 (by omega)
  rwa [show (4 * c + p) / 4 = c by omega, show (4 * c + p) % 4 = p by omega] at h

theorem ref_Regions (base : Option Addr) (A : Addr) (cap : Nat) (d : Dia) (w : World) (hd : DiaAt w base A d) (hs0 : SoundP d) : Gives Tryz.prog 73 #[diaV base cap d] w Nil (fun g : Value × List (Value × List Nat) => g.2.map Prod.snd = regsOf d ∧ ∀ a ∈ g.2, Shape a.1 a.2.length) (fun g => g.1) (fun g => [HL.own 113 1 g.1 g.2.length (g.2.map Prod.fst), HL.rows regHL g.2]) := by
  have h200 := hs0.1
  refine fn_of_run (S := Nil) (args := [diaV base cap d]) (n := 48) (L := []) Tryz.func73 rfl Tryz.ntmps73 (Nat.le_of_ble_eq_true rfl) (Sym.nil _ _) ?_
  change RunC _ _ _ [(0, _)] _
  refine RunC.seq ?_
  refine RunC.region ?_
  refine RunL.grows rfl rfl rfl (Grows.box rfl rfl) (fun b1 _ => ?_)
  refine RunL.still rfl rfl rfl (Still.assign rfl rfl) ?_
  refine RunL.nil ?_
  refine Ends.then ?_
  refine RunC.seq ?_
  refine RunC.region ?_
  refine RunL.grows rfl rfl rfl (Grows.empty rfl Tryz.underlying45 Tryz.sizeOf113 Tryz.zeroValue113) (fun b9 _ => ?_)
  refine RunL.conv (fun _ hs => hs.rows_nil regHL) ?_
  refine RunL.still rfl rfl rfl (Still.assign rfl rfl) ?_
  refine RunL.nil ?_
  refine Ends.then ?_
  refine RunC.seq ?_
  refine RunC.seq ?_
  refine RunC.region ?_
  refine RunL.still rfl rfl rfl (Still.assign rfl rfl) ?_
  refine RunL.nil ?_
  refine Ends.then ?_
  refine RunC.block ?_
  refine RunC.loop2 (γ := Value × List (Value × List Nat) × Nat) (keep := [(1, _)]) (hkeep := [_]) (fun (v, rs, c) => c ≤ d.cross.length ∧ rs.map Prod.snd = regsTo d (4 * c) ∧ ∀ a ∈ rs, Shape a.1 a.2.length) (fun (v, rs, c) => d.cross.length - c) (fun (v, rs, c) => [(3, v), (4, iv c)]) (fun (v, rs, c) => [HL.own 113 1 v rs.length (rs.map Prod.fst), HL.rows regHL rs]) (.slice (some ⟨b9, 0, none⟩) 0 0, [], 0) ⟨by omega, rfl, fun a ha => by cases ha⟩ (Fr.Sub.cons rfl (Fr.Sub.cons rfl (Fr.Sub.nil _))) (Fr.Sub.cons rfl (Fr.Sub.nil _)) (HSub.pick 1 rfl (HSub.pick 0 rfl (HSub.pick 0 rfl (HSub.nil _)))) ?_
  rintro ⟨v, rs, c⟩ ⟨hc, hrs, hsh⟩
  refine RunC.seq ?_
  refine RunC.seq ?_
  refine RunC.region ?_
  refine RunL.still rfl rfl rfl (Still.move rfl rfl) ?_
  refine RunL.still rfl rfl rfl (Still.fieldAddrL (off := 0) (off' := 0) rfl rfl Tryz.underlying24 rfl Tryz.sizeOf22 rfl) ?_
  refine RunL.still rfl rfl rfl (Still.load rfl rfl Tryz.isAgg22 (fun _ hs => cell_nth (hs.at (i := 2) rfl) rfl)) ?_
  refine RunL.still rfl rfl rfl (Still.lenSlice rfl rfl Tryz.underlying22) ?_
  refine RunL.still rfl rfl rfl (Still.lss rfl rfl rfl) ?_
  refine RunL.nil ?_
  refine Ends.then ?_
  refine RunC.cond rfl (fun h14 => ?_) (fun h14 => ?_)
  · have h14 := of_decide_eq_true h14
    refine RunC.skip ?_
    refine Ends.then ?_
    refine RunC.seq ?_
    refine RunC.block ?_
    refine RunC.seq ?_
    refine RunC.region ?_
    refine RunL.still rfl rfl rfl (Still.assign rfl rfl) ?_
    refine RunL.nil ?_
    refine Ends.then ?_
    refine RunC.block ?_
    refine RunC.loop2 (γ := Value × List (Value × List Nat) × Nat) (keep := [(1, _), (4, _)]) (hkeep := [_]) (fun (v, rs, p) => p ≤ 4 ∧ rs.map Prod.snd = regsTo d (4 * c + p) ∧ ∀ a ∈ rs, Shape a.1 a.2.length) (fun (v, rs, p) => 4 - p) (fun (v, rs, p) => [(3, v), (5, iv p)]) (fun (v, rs, p) => [HL.own 113 1 v rs.length (rs.map Prod.fst), HL.rows regHL rs]) (v, rs, 0) ⟨by omega, hrs, hsh⟩ (Fr.Sub.cons rfl (Fr.Sub.cons rfl (Fr.Sub.nil _))) (Fr.Sub.cons rfl (Fr.Sub.cons rfl (Fr.Sub.nil _))) (HSub.pick 0 rfl (HSub.pick 0 rfl (HSub.pick 0 rfl (HSub.nil _)))) ?_
    rintro ⟨v, rs, p⟩ ⟨hp, hrs2, hsh2⟩
    have hal := regsTo_as_len hrs2
    refine RunC.seq ?_
    refine RunC.seq ?_
    refine RunC.region ?_
    refine RunL.still rfl rfl rfl (Still.move rfl rfl) ?_
    refine RunL.still rfl rfl rfl (Still.lss rfl rfl rfl) ?_
    refine RunL.nil ?_
    refine Ends.then ?_
    refine RunC.cond rfl (fun h18 => ?_) (fun h18 => ?_)
    · have h18 := of_decide_eq_true h18
      have hp4 : p < 4 := by omega
      refine RunC.skip ?_
      refine Ends.then ?_
      refine RunC.seq ?_
      refine RunC.block ?_
      refine RunC.seq ?_
      refine RunC.region ?_
      refine RunL.still rfl rfl rfl (Still.move rfl rfl) ?_
      refine RunL.still rfl rfl rfl (Still.move rfl rfl) ?_
      refine RunL.still rfl rfl rfl (Still.build_1_1 (fun x0_0 x1_0 => .agg #[x0_0, x1_0]) rfl rfl rfl (fun _ => by kernel_rfl)) ?_
      refine RunL.grows rfl rfl rfl (Grows.alloc rfl Tryz.zeroValue110) (fun b6 _ => ?_)
      refine RunL.does0 rfl rfl (Does.store rfl rfl rfl (i := 0) rfl Tryz.sizeOf110 rfl (rfl) rfl) (fun _ _ => ?_)
      refine RunL.nil ?_
      refine Ends.then ?_
      refine RunC.seq ?_
      refine RunC.region ?_
      refine RunL.still rfl rfl rfl (Still.assign rfl rfl) ?_
      refine RunL.nil ?_
      refine Ends.then ?_
      refine RunC.seq ?_
      refine RunC.seq ?_
      refine RunC.region ?_
      refine RunL.still rfl rfl rfl (Still.assign rfl rfl) ?_
      refine RunL.nil ?_
      refine Ends.then ?_
      refine RunC.block ?_
      refine RunC.loop2 (γ := Nat) (keep := [(1, _), (3, _), (4, _), (5, _), (6, _)]) (hkeep := [_, _, _, _]) (fun i => i ≤ rs.length) (fun i => rs.length - i) (fun i => [(7, .bool ((rs.take i).any fun a => a.2.contains (4 * c + p))), (8, iv i)]) (fun i => []) 0 (by omega) (Fr.Sub.cons rfl (Fr.Sub.cons rfl (Fr.Sub.nil _))) (Fr.Sub.cons rfl (Fr.Sub.cons rfl (Fr.Sub.cons rfl (Fr.Sub.cons rfl (Fr.Sub.cons rfl (Fr.Sub.nil _)))))) (HSub.pick 0 rfl (HSub.pick 0 rfl (HSub.pick 0 rfl (HSub.pick 0 rfl (HSub.nil _))))) ?_
      rintro i hi
      refine RunC.seq ?_
      refine RunC.seq ?_
      refine RunC.region ?_
      refine RunL.still rfl rfl rfl (Still.move rfl rfl) ?_
      refine RunL.still rfl rfl rfl (Still.move rfl rfl) ?_
      refine RunL.still rfl rfl rfl (Still.lenOwn rfl rfl Tryz.underlying45 (fun _ hs => hs.own (i := 1) rfl)) ?_
      refine RunL.still rfl rfl rfl (Still.lss rfl rfl rfl) ?_
      refine RunL.nil ?_
      refine Ends.then ?_
      refine RunC.cond rfl (fun h27 => ?_) (fun h27 => ?_)
      · have h27 := of_decide_eq_true h27
        obtain ⟨a, ha⟩ := get_of_lt (l := rs) (i := i) (by omega)
        have ham := List.mem_of_getElem? ha
        have hl2 := regsTo_mem_len hrs2 ham
        refine RunC.skip ?_
        refine Ends.then ?_
        refine RunC.seq ?_
        refine RunC.block ?_
        refine RunC.draw 7 (.still 0 (.still 1 (.still 2 (.still 3 (.still 4 (.still 5 (.still 6 .done))))))) (by kernel_rfl) (by kernel_rfl) ?_
        refine RunG.still rfl rfl rfl rfl (Still.move rfl rfl) ?_
        refine RunG.still rfl rfl rfl rfl (Still.move rfl rfl) ?_
        refine RunG.split (t := 31) rfl (fun h31 => ?_) (fun h31 => ?_)
        · skip
          refine RunG.off rfl rfl rfl rfl ?_
          refine RunG.off rfl rfl rfl rfl ?_
          refine RunG.off rfl rfl rfl rfl ?_
          refine RunG.off rfl rfl rfl rfl ?_
          refine RunG.off rfl rfl rfl rfl ?_
          refine RunG.done ?_
          show RunL _ _ _ [_, _, _] _ _
          refine RunL.off rfl rfl rfl ?_
          refine RunL.still rfl rfl rfl (Still.pickT rfl rfl rfl) ?_
          refine RunL.still rfl rfl rfl (Still.assign rfl rfl) ?_
          refine RunL.nil ?_
          refine Ends.block ?_
          refine Ends.then ?_
          refine RunC.region ?_
          refine RunL.still rfl rfl rfl (Still.move rfl rfl) ?_
          refine RunL.still rfl rfl rfl (Still.add rfl rfl rfl (fits64 (by omega) (by omega))) ?_
          refine RunL.still rfl rfl rfl (Still.assign rfl rfl) ?_
          refine RunL.nil ?_
          refine Ends.again (i + 1) ?_ ?_ (Fr.Sub.app ?_ ?_) ?_
          · show _; omega
          · show _ < _; omega
          · exact Fr.Sub.cons (by rw [any_take_succ ha, h31]; rfl) (Fr.Sub.cons rfl (Fr.Sub.nil _))
          · exact Fr.Sub.cons rfl (Fr.Sub.cons rfl (Fr.Sub.cons rfl (Fr.Sub.cons rfl (Fr.Sub.cons rfl (Fr.Sub.nil _)))))
          · exact HSub.pick 0 rfl (HSub.pick 0 rfl (HSub.pick 0 rfl (HSub.pick 0 rfl (HSub.nil _))))
        · skip
          refine RunG.still rfl rfl rfl rfl (Still.move rfl rfl) ?_
          refine RunG.still rfl rfl rfl rfl (Still.move rfl rfl) ?_
          refine RunG.still rfl rfl rfl rfl (Still.indexOwn rfl rfl rfl Tryz.underlying45 Tryz.sizeOf113 (fun _ hs => hs.own (i := 1) rfl) (by omega)) ?_
          refine RunG.still rfl rfl rfl rfl (Still.load rfl rfl Tryz.isAgg113 (fun w hs => own_at (hs.own (i := 1) rfl) (fst_get ha))) ?_
          refine RunG.still rfl rfl rfl rfl (Still.loads rfl rfl Tryz.isAgg110 Tryz.sizeOf110 (vs := [_, _]) rfl (fun _ hs => cells_nth (hs.at (i := 0) rfl) ⟨rfl, ⟨rfl, trivial⟩⟩)) ?_
          refine RunG.done ?_
          show RunL _ _ _ [_, _, _] _ _
          refine RunL.grows rfl rfl rfl (Grows.call (vs := #[_, _]) rfl rfl Tryz.call101 (fun w hs => ref_has a.1 a.2 c p w (hsh2 a ham) (own_all (rows_get (mk := regHL) (hs.at (i := 2) rfl) ha)) (by omega) hp4)) (fun _ _ => ?_)
          refine RunL.still rfl rfl rfl (Still.pickF rfl rfl rfl) ?_
          refine RunL.still rfl rfl rfl (Still.assign rfl rfl) ?_
          refine RunL.nil ?_
          refine Ends.block ?_
          refine Ends.then ?_
          refine RunC.region ?_
          refine RunL.still rfl rfl rfl (Still.move rfl rfl) ?_
          refine RunL.still rfl rfl rfl (Still.add rfl rfl rfl (fits64 (by omega) (by omega))) ?_
          refine RunL.still rfl rfl rfl (Still.assign rfl rfl) ?_
          refine RunL.nil ?_
          refine Ends.again (i + 1) ?_ ?_ (Fr.Sub.app ?_ ?_) ?_
          · show _; omega
          · show _ < _; omega
          · exact Fr.Sub.cons (by rw [any_take_succ ha, h31, Bool.false_or]; rfl) (Fr.Sub.cons rfl (Fr.Sub.nil _))
          · exact Fr.Sub.cons rfl (Fr.Sub.cons rfl (Fr.Sub.cons rfl (Fr.Sub.cons rfl (Fr.Sub.cons rfl (Fr.Sub.nil _)))))
          · exact HSub.pick 0 rfl (HSub.pick 0 rfl (HSub.pick 0 rfl (HSub.pick 0 rfl (HSub.nil _))))
      · have h27 := of_decide_eq_false h27
        refine RunC.exit ?_
        refine Ends.then_exit ?_
        refine Ends.then_exit ?_
        refine Ends.block_exit ?_
        refine Ends.then ?_
        refine RunC.seq ?_
        refine RunC.region ?_
        refine RunL.still rfl rfl rfl (Still.move rfl rfl) ?_
        refine RunL.still rfl rfl rfl (Still.not rfl rfl) ?_
        refine RunL.nil ?_
        refine Ends.then ?_
        refine RunC.cond rfl (fun h40 => ?_) (fun h40 => ?_)
        · rw [List.take_of_length_le (by omega)] at h40
          refine RunC.region ?_
          refine RunL.still rfl rfl rfl (Still.move rfl rfl) ?_
          refine RunL.still rfl rfl rfl (Still.loads rfl rfl Tryz.isAgg24 Tryz.sizeOf24 (vs := [_, _]) rfl (fun _ hs => cells_nth (hs.at (i := 3) rfl) ⟨rfl, ⟨rfl, trivial⟩⟩)) ?_
          refine RunL.still rfl rfl rfl (Still.loads rfl rfl Tryz.isAgg110 Tryz.sizeOf110 (vs := [_, _]) rfl (fun _ hs => cells_nth (hs.at (i := 0) rfl) ⟨rfl, ⟨rfl, trivial⟩⟩)) ?_
          refine RunL.grows rfl rfl rfl (Grows.call (vs := #[_, _]) rfl rfl Tryz.call102 (fun w hs => ref_RegionCP base A cap d c p w (hd.sym hs) hs0 (by omega) hp4)) (fun v44 hv44 => ?_)
          obtain ⟨vb, vc, hvv, hvb⟩ := hv44
          subst hvv
          refine RunL.grows rfl rfl rfl (Grows.slice1 rfl rfl Tryz.underlying45 Tryz.sizeOf113 rfl Tryz.zeroValue113 (by decide)) (fun b45 _ => ?_)
          refine RunL.does rfl rfl rfl (Does.appendTo (n' := (rs.length + 1)) (xs' := ((rs ++ [(Value.slice vb (regionOf d (4 * c + p)).length vc, regionOf d (4 * c + p))]).map Prod.fst)) (news := [_]) rfl rfl rfl rfl (i := 3) rfl Tryz.underlying45 (by kernel_rfl : (_ : Option _) = some (some (.slice none 0 0), 1, 24)) rfl rfl (fun _ hs => cells_nth (hs.at (i := 0) rfl) ⟨rfl, trivial⟩) rfl rfl (by omega) (by omega) (rfl) (by simp)) (fun v46 hv46 => ?_)
          refine RunL.conv (fun _ hs => Sym.rows_push (mk := regHL) (a := (Value.slice vb (regionOf d (4 * c + p)).length vc, regionOf d (4 * c + p))) (hs.sub (HSub.pick 1 rfl (HSub.pick 3 rfl (HSub.pick 0 rfl (HSub.pick 0 rfl (HSub.pick 0 rfl (HSub.pick 0 rfl (HSub.nil _))))))))) ?_
          refine RunL.still rfl rfl rfl (Still.assign rfl rfl) ?_
          refine RunL.nil ?_
          refine Ends.block ?_
          refine Ends.then ?_
          refine RunC.region ?_
          refine RunL.still rfl rfl rfl (Still.move rfl rfl) ?_
          refine RunL.still rfl rfl rfl (Still.add rfl rfl rfl (fits64 (by omega) (by omega))) ?_
          refine RunL.still rfl rfl rfl (Still.assign rfl rfl) ?_
          refine RunL.nil ?_
          refine Ends.again (v46, rs ++ [(Value.slice vb (regionOf d (4 * c + p)).length vc, regionOf d (4 * c + p))], p + 1) ?_ ?_ (Fr.Sub.app ?_ ?_) ?_
          · exact ⟨by show p + 1 ≤ 4; omega, regs_push hrs2 (by simpa using h40), fun a ha => by rcases List.mem_append.1 ha with ha | ha; exact hsh2 a ha; cases List.mem_singleton.1 ha; exact ⟨vb, vc, rfl, hvb⟩⟩
          · show 4 - (p + 1) < 4 - p; omega
          · exact Fr.Sub.cons rfl (Fr.Sub.cons rfl (Fr.Sub.nil _))
          · exact Fr.Sub.cons rfl (Fr.Sub.cons rfl (Fr.Sub.nil _))
          · exact HSub.pick 3 (by simp only [List.length_append, List.length_singleton]; rfl) (HSub.pick 0 rfl (HSub.pick 2 rfl (HSub.nil _)))
        · rw [List.take_of_length_le (by omega)] at h40
          refine RunC.skip ?_
          refine Ends.block ?_
          refine Ends.then ?_
          refine RunC.region ?_
          refine RunL.still rfl rfl rfl (Still.move rfl rfl) ?_
          refine RunL.still rfl rfl rfl (Still.add rfl rfl rfl (fits64 (by omega) (by omega))) ?_
          refine RunL.still rfl rfl rfl (Still.assign rfl rfl) ?_
          refine RunL.nil ?_
          refine Ends.again (v, rs, p + 1) ?_ ?_ (Fr.Sub.app ?_ ?_) ?_
          · exact ⟨by show p + 1 ≤ 4; omega, regs_keep hrs2 (by simpa using h40), hsh2⟩
          · show 4 - (p + 1) < 4 - p; omega
          · exact Fr.Sub.cons rfl (Fr.Sub.cons rfl (Fr.Sub.nil _))
          · exact Fr.Sub.cons rfl (Fr.Sub.cons rfl (Fr.Sub.nil _))
          · exact HSub.pick 1 rfl (HSub.pick 1 rfl (HSub.pick 1 rfl (HSub.nil _)))
    · have h18 := of_decide_eq_false h18
      refine RunC.exit ?_
      refine Ends.then_exit ?_
      refine Ends.then_exit ?_
      refine Ends.block_exit ?_
      refine Ends.block ?_
      refine Ends.then ?_
      refine RunC.region ?_
      refine RunL.still rfl rfl rfl (Still.move rfl rfl) ?_
      refine RunL.still rfl rfl rfl (Still.add rfl rfl rfl (fits64 (by omega) (by omega))) ?_
      refine RunL.still rfl rfl rfl (Still.assign rfl rfl) ?_
      refine RunL.nil ?_
      obtain rfl : p = 4 := by omega
      refine Ends.again (v, rs, c + 1) ?_ ?_ (Fr.Sub.app ?_ ?_) ?_
      · exact ⟨by show c + 1 ≤ _; omega, hrs2, hsh2⟩
      · show _ - (c + 1) < _ - c; omega
      · exact Fr.Sub.cons rfl (Fr.Sub.cons rfl (Fr.Sub.nil _))
      · exact Fr.Sub.cons rfl (Fr.Sub.nil _)
      · exact HSub.pick 0 rfl (HSub.pick 0 rfl (HSub.pick 0 rfl (HSub.nil _)))
  · have h14 := of_decide_eq_false h14
    refine RunC.exit ?_
    refine Ends.then_exit ?_
    refine Ends.then_exit ?_
    refine Ends.block_exit ?_
    refine Ends.then ?_
    refine RunC.seq ?_
    refine RunC.region ?_
    refine RunL.still rfl rfl rfl (Still.move rfl rfl) ?_
    refine RunL.still rfl rfl rfl (Still.assign rfl rfl) ?_
    refine RunL.nil ?_
    refine Ends.then ?_
    refine RunC.ret ?_
    obtain rfl : c = d.cross.length := by omega
    refine Ends.leave (.inl rfl) (fun _ _ ok => results1 Tryz.results73 (Holds.tmp rfl) ok) (fun w1 hs => ?_)
    exact Ret.intro (v, rs) ⟨hrs, hsh⟩ rfl (HSub.pick 0 rfl (HSub.pick 0 rfl (HSub.nil _))) hs

theorem ref_OtherCP (base : Option Addr) (A : Addr) (cap : Nat) (d : Dia) (c p : Nat) (w : World) (hd : DiaAt w base A d) (hs0 : SoundP d) (hc : c < d.cross.length) (hp : p < 4) : Gives Tryz.prog 88 #[diaV base cap d, .agg #[iv c, iv p]] w Nil (fun _ : Unit => True) (fun _ => .agg #[iv ((otherQ d (4 * c + p) / 4 : Nat) : Int), iv ((otherQ d (4 * c + p) % 4 : Nat) : Int)]) (fun _ => []) := by
  have h := ref_OtherQ base A cap d (4 * c + p) w hd hs0 (by omega)
  rwa [show (4 * c + p) / 4 = c by omega, show (4 * c + p) % 4 = p by omega] at h

theorem ref_Piece (base : Option Addr) (A : Addr) (cap : Nat) (d : Dia) (a : Nat) (w : World) (hd : DiaAt w base A d) (hs0 : SoundP d) (ha : a < d.cross.length) : Gives Tryz.prog 51 #[diaV base cap d, iv a] w Nil (fun v : Value => Shape v (pieceOf d a).length) (fun v => v) (fun v => [HL.own 3 1 v (pieceOf d a).length (ints ((pieceOf d a).map Int.ofNat))]) := by
  have h200 := hs0.1
  have ha0 : (List.replicate d.cross.length false)[a]? = some false := by simp [ha]
  refine fn_of_run (S := Nil) (args := [diaV base cap d, iv a]) (n := 67) (L := []) Tryz.func51 rfl Tryz.ntmps51 (Nat.le_of_ble_eq_true rfl) (Sym.nil _ _) ?_
  change RunC _ _ _ [(0, _), (1, _)] _
  refine RunC.seq ?_
  refine RunC.region ?_
  refine RunL.grows rfl rfl rfl (Grows.box rfl rfl) (fun b2 _ => ?_)
  refine RunL.still rfl rfl rfl (Still.assign rfl rfl) ?_
  refine RunL.nil ?_
  refine Ends.then ?_
  refine RunC.seq ?_
  refine RunC.region ?_
  refine RunL.still rfl rfl rfl (Still.fieldAddrL (off := 0) (off' := 0) rfl rfl Tryz.underlying24 rfl Tryz.sizeOf22 rfl) ?_
  refine RunL.still rfl rfl rfl (Still.load rfl rfl Tryz.isAgg22 (fun _ hs => cell_nth (hs.at (i := 0) rfl) rfl)) ?_
  refine RunL.still rfl rfl rfl (Still.lenSlice rfl rfl Tryz.underlying22) ?_
  refine RunL.grows rfl rfl rfl (Grows.make (n := d.cross.length) (xs := (bools (List.replicate d.cross.length false))) rfl rfl rfl Tryz.underlying102 (by kernel_rfl : (_ : Option _) = some (some (.bool false), 1, 1)) rfl (by omega) (by omega) (zeros_one _ _ |>.trans (bools_replicate _ _))) (fun b15 _ => ?_)
  refine RunL.still rfl rfl rfl (Still.assign rfl rfl) ?_
  refine RunL.nil ?_
  refine Ends.then ?_
  refine RunC.seq ?_
  refine RunC.region ?_
  refine RunL.still rfl rfl rfl (Still.move rfl rfl) ?_
  refine RunL.still rfl rfl rfl (Still.move rfl rfl) ?_
  refine RunL.still rfl rfl rfl (Still.indexOwn rfl rfl rfl Tryz.underlying102 Tryz.sizeOf4 (fun _ hs => hs.own (i := 0) rfl) (by omega)) ?_
  refine RunL.does0 rfl rfl (Does.storeOwn1 (xs' := (bools ((List.replicate d.cross.length false).set a true))) rfl rfl rfl rfl (i := 0) rfl Tryz.sizeOf4 rfl (by simp; omega) (bools_set _ _ _)) (fun _ _ => ?_)
  refine RunL.nil ?_
  refine Ends.then ?_
  refine RunC.seq ?_
  refine RunC.seq ?_
  refine RunC.region ?_
  refine RunL.still rfl rfl rfl (Still.assign rfl rfl) ?_
  refine RunL.nil ?_
  refine Ends.then ?_
  refine RunC.block ?_
  refine RunC.loop2 (γ := List Bool × Bool) (keep := [(2, _), (5, _)]) (hkeep := [_]) (fun (xs, ag) => xs.length = d.cross.length ∧ xs[a]? = some true ∧ (∀ c, xs[c]? = some true → Conn d a c) ∧ (ag = false → ∀ c p, c < d.cross.length → p < 4 → Cl d xs c p)) (fun (xs, ag) => 2 * falses xs + (bif ag then 1 else 0)) (fun (xs, ag) => [(6, .bool ag)]) (fun (xs, ag) => [HL.own 4 1 (.slice (some ⟨b15, 0, none⟩) d.cross.length d.cross.length) d.cross.length (bools xs)]) ((List.replicate d.cross.length false).set a true, true) ⟨by simp, by simp [ha], fun c hc => by rw [List.getElem?_set] at hc; split at hc; (rename_i e; subst e; exact .refl); (exfalso; rw [List.getElem?_replicate] at hc; split at hc <;> simp at hc), fun h => by cases h⟩ (Fr.Sub.cons rfl (Fr.Sub.nil _)) (Fr.Sub.cons rfl (Fr.Sub.cons rfl (Fr.Sub.nil _))) (HSub.pick 0 rfl (HSub.pick 0 rfl (HSub.nil _))) ?_
  rintro ⟨xs0, ag⟩ ⟨hl0, h00, hc0, hcl0⟩
  refine RunC.seq ?_
  refine RunC.seq ?_
  refine RunC.region ?_
  refine RunL.still rfl rfl rfl (Still.move rfl rfl) ?_
  refine RunL.nil ?_
  refine Ends.then ?_
  refine RunC.cond rfl (fun h19 => ?_) (fun h19 => ?_)
  · subst h19
    refine RunC.skip ?_
    refine Ends.then ?_
    refine RunC.block ?_
    refine RunC.seq ?_
    refine RunC.region ?_
    refine RunL.still rfl rfl rfl (Still.assign rfl rfl) ?_
    refine RunL.nil ?_
    refine Ends.then ?_
    refine RunC.seq ?_
    refine RunC.region ?_
    refine RunL.still rfl rfl rfl (Still.assign rfl rfl) ?_
    refine RunL.nil ?_
    refine Ends.then ?_
    refine RunC.block ?_
    refine RunC.loop2 (γ := List Bool × Bool × Nat) (keep := [(2, _), (5, _)]) (hkeep := [_]) (fun (xs, ag, c) => c ≤ d.cross.length ∧ xs.length = d.cross.length ∧ xs[a]? = some true ∧ (∀ c, xs[c]? = some true → Conn d a c) ∧ (ag = false → xs = xs0 ∧ ∀ c' p, c' < c → p < 4 → Cl d xs0 c' p) ∧ (ag = true → falses xs < falses xs0)) (fun (xs, ag, c) => d.cross.length - c) (fun (xs, ag, c) => [(6, .bool ag), (7, iv c)]) (fun (xs, ag, c) => [HL.own 4 1 (.slice (some ⟨b15, 0, none⟩) d.cross.length d.cross.length) d.cross.length (bools xs)]) (xs0, false, 0) ⟨by omega, hl0, h00, hc0, fun _ => ⟨rfl, fun c p h => by omega⟩, fun h => by cases h⟩ (Fr.Sub.cons rfl (Fr.Sub.cons rfl (Fr.Sub.nil _))) (Fr.Sub.cons rfl (Fr.Sub.cons rfl (Fr.Sub.nil _))) (HSub.pick 0 rfl (HSub.pick 0 rfl (HSub.nil _))) ?_
    rintro ⟨xs, ag, c⟩ ⟨hcc, hl, h0, hc, hcl, hlt⟩
    refine RunC.seq ?_
    refine RunC.seq ?_
    refine RunC.region ?_
    refine RunL.still rfl rfl rfl (Still.move rfl rfl) ?_
    refine RunL.still rfl rfl rfl (Still.move rfl rfl) ?_
    refine RunL.still rfl rfl rfl (Still.lenOwn rfl rfl Tryz.underlying102 (fun _ hs => hs.own (i := 0) rfl)) ?_
    refine RunL.still rfl rfl rfl (Still.lss rfl rfl rfl) ?_
    refine RunL.nil ?_
    refine Ends.then ?_
    refine RunC.cond rfl (fun h23 => ?_) (fun h23 => ?_)
    · have h23 := of_decide_eq_true h23
      refine RunC.skip ?_
      refine Ends.then ?_
      refine RunC.seq ?_
      refine RunC.block ?_
      refine RunC.seq ?_
      refine RunC.region ?_
      refine RunL.still rfl rfl rfl (Still.assign rfl rfl) ?_
      refine RunL.nil ?_
      refine Ends.then ?_
      refine RunC.block ?_
      refine RunC.loop2 (γ := List Bool × Bool × Nat) (keep := [(2, _), (5, _), (7, _)]) (hkeep := [_]) (fun (xs, ag, p) => p ≤ 4 ∧ xs.length = d.cross.length ∧ xs[a]? = some true ∧ (∀ c, xs[c]? = some true → Conn d a c) ∧ (ag = false → xs = xs0 ∧ (∀ c' p, c' < c → p < 4 → Cl d xs0 c' p) ∧ ∀ p', p' < p → Cl d xs0 c p') ∧ (ag = true → falses xs < falses xs0)) (fun (xs, ag, p) => 4 - p) (fun (xs, ag, p) => [(6, .bool ag), (8, iv p)]) (fun (xs, ag, p) => [HL.own 4 1 (.slice (some ⟨b15, 0, none⟩) d.cross.length d.cross.length) d.cross.length (bools xs)]) (xs, ag, 0) ⟨by omega, hl, h0, hc, fun e => ⟨(hcl e).1, (hcl e).2, fun p h => by omega⟩, hlt⟩ (Fr.Sub.cons rfl (Fr.Sub.cons rfl (Fr.Sub.nil _))) (Fr.Sub.cons rfl (Fr.Sub.cons rfl (Fr.Sub.cons rfl (Fr.Sub.nil _)))) (HSub.pick 0 rfl (HSub.pick 0 rfl (HSub.nil _))) ?_
      rintro ⟨xs, ag, p⟩ ⟨hpp, hl, h0, hc, hcl, hlt⟩
      refine RunC.seq ?_
      refine RunC.seq ?_
      refine RunC.region ?_
      refine RunL.still rfl rfl rfl (Still.move rfl rfl) ?_
      refine RunL.still rfl rfl rfl (Still.lss rfl rfl rfl) ?_
      refine RunL.still rfl rfl rfl (Still.move rfl rfl) ?_
      refine RunL.split (t := 28) rfl (fun h28 => ?_) (fun h28 => ?_)
      · have h28 := of_decide_eq_true h28
        have hp4 : p < 4 := by omega
        obtain ⟨y, hy⟩ := get_of_lt (l := xs) (i := c) (by omega)
        refine RunL.still rfl rfl rfl (Still.move rfl rfl) ?_
        refine RunL.still rfl rfl rfl (Still.move rfl rfl) ?_
        refine RunL.still rfl rfl rfl (Still.indexOwn rfl rfl rfl Tryz.underlying102 Tryz.sizeOf4 (fun _ hs => hs.own (i := 0) rfl) (by omega)) ?_
        refine RunL.still rfl rfl rfl (Still.load rfl rfl Tryz.isAgg4 (fun w hs => own_at (hs.own (i := 0) rfl) (bools_get hy))) ?_
        refine RunL.still rfl rfl rfl (Still.pickT rfl rfl rfl) ?_
        refine RunL.nil ?_
        refine Ends.then ?_
        refine RunC.cond rfl (fun h33 => ?_) (fun h33 => ?_)
        · have hot := hs0.other_lt (q := 4 * c + p) (by omega)
          refine RunC.skip ?_
          refine Ends.then ?_
          refine RunC.seq ?_
          refine RunC.block ?_
          refine RunC.seq ?_
          refine RunC.region ?_
          refine RunL.still rfl rfl rfl (Still.loads rfl rfl Tryz.isAgg24 Tryz.sizeOf24 (vs := [_, _]) rfl (fun _ hs => cells_nth (hs.at (i := 1) rfl) ⟨rfl, ⟨rfl, trivial⟩⟩)) ?_
          refine RunL.still rfl rfl rfl (Still.move rfl rfl) ?_
          refine RunL.still rfl rfl rfl (Still.move rfl rfl) ?_
          refine RunL.still rfl rfl rfl (Still.build_1_1 (fun x0_0 x1_0 => .agg #[x0_0, x1_0]) rfl rfl rfl (fun _ => by kernel_rfl)) ?_
          refine RunL.grows rfl rfl rfl (Grows.call (vs := #[_, _]) rfl rfl Tryz.call88 (fun w hs => ref_OtherCP base A cap d c p w (hd.sym hs) hs0 (by omega) hp4)) (fun _ _ => ?_)
          obtain ⟨z, hz⟩ := get_of_lt (l := xs) (i := otherQ d (4 * c + p) / 4) (by omega)
          refine RunL.grows rfl rfl rfl (Grows.alloc rfl Tryz.zeroValue110) (fun b9 _ => ?_)
          refine RunL.does0 rfl rfl (Does.store rfl rfl rfl (i := 0) rfl Tryz.sizeOf110 rfl (rfl) rfl) (fun _ _ => ?_)
          refine RunL.nil ?_
          refine Ends.then ?_
          refine RunC.seq ?_
          refine RunC.region ?_
          refine RunL.still rfl rfl rfl (Still.move rfl rfl) ?_
          refine RunL.still rfl rfl rfl (Still.fieldAddrL (off := 0) (off' := 0) rfl rfl Tryz.underlying110 rfl Tryz.sizeOf3 rfl) ?_
          refine RunL.still rfl rfl rfl (Still.load rfl rfl Tryz.isAgg3 (fun _ hs => cell_nth (hs.at (i := 0) rfl) rfl)) ?_
          refine RunL.still rfl rfl rfl (Still.indexOwn rfl rfl rfl Tryz.underlying102 Tryz.sizeOf4 (fun _ hs => hs.own (i := 1) rfl) (by omega)) ?_
          refine RunL.still rfl rfl rfl (Still.load rfl rfl Tryz.isAgg4 (fun w hs => own_at (hs.own (i := 1) rfl) (bools_get hz))) ?_
          refine RunL.still rfl rfl rfl (Still.not rfl rfl) ?_
          refine RunL.nil ?_
          refine Ends.then ?_
          refine RunC.cond rfl (fun h46 => ?_) (fun h46 => ?_)
          · have hz0 : z = false := by simpa using h46
            refine RunC.seq ?_
            refine RunC.region ?_
            refine RunL.still rfl rfl rfl (Still.move rfl rfl) ?_
            refine RunL.still rfl rfl rfl (Still.fieldAddrL (off := 0) (off' := 0) rfl rfl Tryz.underlying110 rfl Tryz.sizeOf3 rfl) ?_
            refine RunL.still rfl rfl rfl (Still.load rfl rfl Tryz.isAgg3 (fun _ hs => cell_nth (hs.at (i := 0) rfl) rfl)) ?_
            refine RunL.still rfl rfl rfl (Still.indexOwn rfl rfl rfl Tryz.underlying102 Tryz.sizeOf4 (fun _ hs => hs.own (i := 1) rfl) (by omega)) ?_
            refine RunL.does0 rfl rfl (Does.storeOwn1 (xs' := (bools (xs.set (otherQ d (4 * c + p) / 4) true))) rfl rfl rfl rfl (i := 1) rfl Tryz.sizeOf4 rfl (by simp; omega) (bools_set _ _ _)) (fun _ _ => ?_)
            refine RunL.nil ?_
            refine Ends.then ?_
            refine RunC.region ?_
            refine RunL.still rfl rfl rfl (Still.assign rfl rfl) ?_
            refine RunL.nil ?_
            refine Ends.block ?_
            refine Ends.then ?_
            refine RunC.region ?_
            refine RunL.still rfl rfl rfl (Still.move rfl rfl) ?_
            refine RunL.still rfl rfl rfl (Still.add rfl rfl rfl (fits64 (by omega) (by omega))) ?_
            refine RunL.still rfl rfl rfl (Still.assign rfl rfl) ?_
            refine RunL.nil ?_
            have hca : Conn d a c := hc c (by rw [hy, h33])
            have hfs := falses_set (by rw [hz, hz0])
            refine Ends.again (xs.set (otherQ d (4 * c + p) / 4) true, true, p + 1) ?_ ?_ (Fr.Sub.app ?_ ?_) ?_
            · exact ⟨by show p + 1 ≤ 4; omega, by simpa using hl, by rw [List.getElem?_set]; split <;> simp_all, fun c' h => by rw [List.getElem?_set] at h; split at h; (rename_i e; subst e; exact hca.step hp4); exact hc c' h, fun e => (by cases e), fun _ => (by have h5 : falses xs ≤ falses xs0 := (by cases ag; (rw [(hcl rfl).1]; exact Nat.le_refl _); exact Nat.le_of_lt (hlt rfl)); show falses (xs.set _ true) < falses xs0; omega)⟩
            · show 4 - (p + 1) < 4 - p; omega
            · exact Fr.Sub.cons rfl (Fr.Sub.cons rfl (Fr.Sub.nil _))
            · exact Fr.Sub.cons rfl (Fr.Sub.cons rfl (Fr.Sub.cons rfl (Fr.Sub.nil _)))
            · exact HSub.pick 1 rfl (HSub.pick 1 rfl (HSub.nil _))
          · have hz1 : z = true := by simpa using h46
            refine RunC.skip ?_
            refine Ends.block ?_
            refine Ends.then ?_
            refine RunC.region ?_
            refine RunL.still rfl rfl rfl (Still.move rfl rfl) ?_
            refine RunL.still rfl rfl rfl (Still.add rfl rfl rfl (fits64 (by omega) (by omega))) ?_
            refine RunL.still rfl rfl rfl (Still.assign rfl rfl) ?_
            refine RunL.nil ?_
            refine Ends.again (xs, ag, p + 1) ?_ ?_ (Fr.Sub.app ?_ ?_) ?_
            · exact ⟨by show p + 1 ≤ 4; omega, hl, h0, hc, fun e => ⟨(hcl e).1, (hcl e).2.1, fun p' h => by rcases Nat.lt_or_ge p' p with h2 | h2; exact (hcl e).2.2 p' h2; obtain rfl : p' = p := (by omega); intro _; rw [← (hcl e).1, hz, hz1]⟩, hlt⟩
            · show 4 - (p + 1) < 4 - p; omega
            · exact Fr.Sub.cons rfl (Fr.Sub.cons rfl (Fr.Sub.nil _))
            · exact Fr.Sub.cons rfl (Fr.Sub.cons rfl (Fr.Sub.cons rfl (Fr.Sub.nil _)))
            · exact HSub.pick 1 rfl (HSub.pick 1 rfl (HSub.nil _))
        · skip
          refine RunC.exit ?_
          refine Ends.then_exit ?_
          refine Ends.then_exit ?_
          refine Ends.block_exit ?_
          refine Ends.block ?_
          refine Ends.then ?_
          refine RunC.region ?_
          refine RunL.still rfl rfl rfl (Still.move rfl rfl) ?_
          refine RunL.still rfl rfl rfl (Still.add rfl rfl rfl (fits64 (by omega) (by omega))) ?_
          refine RunL.still rfl rfl rfl (Still.assign rfl rfl) ?_
          refine RunL.nil ?_
          have hp4 : p < 4 := by omega
          refine Ends.again (xs, ag, c + 1) ?_ ?_ (Fr.Sub.app ?_ ?_) ?_
          · exact ⟨by show c + 1 ≤ _; omega, hl, h0, hc, fun e => ⟨(hcl e).1, fun c' p' h1 h2 => by rcases Nat.lt_or_ge c' c with h | h; exact (hcl e).2.1 c' p' h h2; obtain rfl : c' = c := (by omega); intro ht; rw [← (hcl e).1, hy] at ht; cases ht; cases h33⟩, hlt⟩
          · show _ - (c + 1) < _ - c; omega
          · exact Fr.Sub.cons rfl (Fr.Sub.cons rfl (Fr.Sub.nil _))
          · exact Fr.Sub.cons rfl (Fr.Sub.cons rfl (Fr.Sub.nil _))
          · exact HSub.pick 0 rfl (HSub.pick 0 rfl (HSub.nil _))
      · have h28 := of_decide_eq_false h28
        refine RunL.off rfl rfl rfl ?_
        refine RunL.off rfl rfl rfl ?_
        refine RunL.off rfl rfl rfl ?_
        refine RunL.off rfl rfl rfl ?_
        refine RunL.still rfl rfl rfl (Still.pickF rfl rfl rfl) ?_
        refine RunL.nil ?_
        refine Ends.then ?_
        refine RunC.cond_false rfl ?_
        refine RunC.exit ?_
        refine Ends.then_exit ?_
        refine Ends.then_exit ?_
        refine Ends.block_exit ?_
        refine Ends.block ?_
        refine Ends.then ?_
        refine RunC.region ?_
        refine RunL.still rfl rfl rfl (Still.move rfl rfl) ?_
        refine RunL.still rfl rfl rfl (Still.add rfl rfl rfl (fits64 (by omega) (by omega))) ?_
        refine RunL.still rfl rfl rfl (Still.assign rfl rfl) ?_
        refine RunL.nil ?_
        obtain rfl : p = 4 := by omega
        refine Ends.again (xs, ag, c + 1) ?_ ?_ (Fr.Sub.app ?_ ?_) ?_
        · exact ⟨by show c + 1 ≤ _; omega, hl, h0, hc, fun e => ⟨(hcl e).1, fun c' p' h1 h2 => by rcases Nat.lt_or_ge c' c with h | h; exact (hcl e).2.1 c' p' h h2; obtain rfl : c' = c := (by omega); exact (hcl e).2.2 p' h2⟩, hlt⟩
        · show _ - (c + 1) < _ - c; omega
        · exact Fr.Sub.cons rfl (Fr.Sub.cons rfl (Fr.Sub.nil _))
        · exact Fr.Sub.cons rfl (Fr.Sub.cons rfl (Fr.Sub.nil _))
        · exact HSub.pick 0 rfl (HSub.pick 0 rfl (HSub.nil _))
    · have h23 := of_decide_eq_false h23
      refine RunC.exit ?_
      refine Ends.then_exit ?_
      refine Ends.then_exit ?_
      refine Ends.block_exit ?_
      refine Ends.block ?_
      obtain rfl : c = d.cross.length := by omega
      refine Ends.again (xs, ag) ?_ ?_ (Fr.Sub.app ?_ ?_) ?_
      · exact ⟨hl, h0, hc, fun e => by obtain ⟨e1, e2⟩ := hcl e; rw [e1]; exact fun c p h1 h2 => e2 c p h1 h2⟩
      · show 2 * falses xs + _ < 2 * falses xs0 + 1; cases ag; (have := (hcl rfl).1; subst this; simp); (have := hlt rfl; simp; omega)
      · exact Fr.Sub.cons rfl (Fr.Sub.nil _)
      · exact Fr.Sub.cons rfl (Fr.Sub.cons rfl (Fr.Sub.nil _))
      · exact HSub.pick 0 rfl (HSub.pick 0 rfl (HSub.nil _))
  · subst h19
    refine RunC.exit ?_
    refine Ends.then_exit ?_
    refine Ends.then_exit ?_
    refine Ends.block_exit ?_
    refine Ends.then ?_
    refine RunC.seq ?_
    refine RunC.region ?_
    refine RunL.grows rfl rfl rfl (Grows.empty rfl Tryz.underlying36 Tryz.sizeOf3 Tryz.zeroValue3) (fun b51 _ => ?_)
    refine RunL.still rfl rfl rfl (Still.assign rfl rfl) ?_
    refine RunL.nil ?_
    refine Ends.then ?_
    refine RunC.seq ?_
    refine RunC.seq ?_
    refine RunC.region ?_
    refine RunL.still rfl rfl rfl (Still.assign rfl rfl) ?_
    refine RunL.nil ?_
    refine Ends.then ?_
    refine RunC.block ?_
    refine RunC.loop2 (γ := Value × Nat) (keep := [(5, _)]) (hkeep := [_, _]) (fun (v, c) => c ≤ d.cross.length) (fun (v, c) => d.cross.length - c) (fun (v, c) => [(10, v), (11, iv c)]) (fun (v, c) => [HL.own 3 1 v ((List.range c).filter (connB d a)).length (ints (((List.range c).filter (connB d a)).map Int.ofNat))]) (.slice (some ⟨b51, 0, none⟩) 0 0, 0) (by omega) (Fr.Sub.cons rfl (Fr.Sub.cons rfl (Fr.Sub.nil _))) (Fr.Sub.cons rfl (Fr.Sub.nil _)) (HSub.pick 0 rfl (HSub.pick 0 rfl (HSub.pick 0 rfl (HSub.nil _)))) ?_
    rintro ⟨v, c⟩ hcc
    have hfl : ((List.range c).filter (connB d a)).length ≤ c := by have := List.length_filter_le (connB d a) (List.range c); rwa [List.length_range] at this
    refine RunC.seq ?_
    refine RunC.seq ?_
    refine RunC.region ?_
    refine RunL.still rfl rfl rfl (Still.move rfl rfl) ?_
    refine RunL.still rfl rfl rfl (Still.move rfl rfl) ?_
    refine RunL.still rfl rfl rfl (Still.lenOwn rfl rfl Tryz.underlying102 (fun _ hs => hs.own (i := 1) rfl)) ?_
    refine RunL.still rfl rfl rfl (Still.lss rfl rfl rfl) ?_
    refine RunL.nil ?_
    refine Ends.then ?_
    refine RunC.cond rfl (fun h55 => ?_) (fun h55 => ?_)
    · have h55 := of_decide_eq_true h55
      refine RunC.skip ?_
      refine Ends.then ?_
      refine RunC.seq ?_
      refine RunC.block ?_
      refine RunC.seq ?_
      refine RunC.region ?_
      refine RunL.still rfl rfl rfl (Still.move rfl rfl) ?_
      refine RunL.still rfl rfl rfl (Still.move rfl rfl) ?_
      refine RunL.still rfl rfl rfl (Still.indexOwn rfl rfl rfl Tryz.underlying102 Tryz.sizeOf4 (fun _ hs => hs.own (i := 1) rfl) (by omega)) ?_
      refine RunL.still rfl rfl rfl (Still.load rfl rfl Tryz.isAgg4 (fun w hs => own_at (hs.own (i := 1) rfl) (bools_get (closed_conn hs0 ha hl0 h00 hc0 (hcl0 rfl) c (by omega))))) ?_
      refine RunL.nil ?_
      refine Ends.then ?_
      refine RunC.cond rfl (fun h61 => ?_) (fun h61 => ?_)
      · skip
        refine RunC.region ?_
        refine RunL.still rfl rfl rfl (Still.move rfl rfl) ?_
        refine RunL.still rfl rfl rfl (Still.move rfl rfl) ?_
        refine RunL.grows rfl rfl rfl (Grows.slice1 rfl rfl Tryz.underlying36 Tryz.sizeOf3 rfl Tryz.zeroValue3 (by decide)) (fun b64 _ => ?_)
        refine RunL.does rfl rfl rfl (Does.appendTo (n' := (((List.range c).filter (connB d a)).length + 1)) (xs' := (ints ((((List.range c).filter (connB d a)).map Int.ofNat) ++ [(c : Int)]))) (news := [_]) rfl rfl rfl rfl (i := 1) rfl Tryz.underlying36 (by kernel_rfl : (_ : Option _) = some (some (.int .i64 0), 1, 8)) rfl rfl (fun _ hs => cells_nth (hs.at (i := 0) rfl) ⟨rfl, trivial⟩) rfl rfl (by omega) (by omega) (rfl) (ints_snoc _ _)) (fun v65 hv65 => ?_)
        refine RunL.still rfl rfl rfl (Still.assign rfl rfl) ?_
        refine RunL.nil ?_
        refine Ends.block ?_
        refine Ends.then ?_
        refine RunC.region ?_
        refine RunL.still rfl rfl rfl (Still.move rfl rfl) ?_
        refine RunL.still rfl rfl rfl (Still.add rfl rfl rfl (fits64 (by omega) (by omega))) ?_
        refine RunL.still rfl rfl rfl (Still.assign rfl rfl) ?_
        refine RunL.nil ?_
        refine Ends.again (v65, c + 1) ?_ ?_ (Fr.Sub.app ?_ ?_) ?_
        · show c + 1 ≤ _; omega
        · show _ - (c + 1) < _ - c; omega
        · exact Fr.Sub.cons rfl (Fr.Sub.cons rfl (Fr.Sub.nil _))
        · exact Fr.Sub.cons rfl (Fr.Sub.nil _)
        · exact HSub.pick 1 (by have e : (List.range (c + 1)).filter (connB d a) = (List.range c).filter (connB d a) ++ [c] := (by rw [List.range_succ, List.filter_append]; simp [h61]); rw [e, List.length_append, List.map_append]; rfl) (HSub.pick 1 rfl (HSub.pick 1 rfl (HSub.nil _)))
      · skip
        refine RunC.skip ?_
        refine Ends.block ?_
        refine Ends.then ?_
        refine RunC.region ?_
        refine RunL.still rfl rfl rfl (Still.move rfl rfl) ?_
        refine RunL.still rfl rfl rfl (Still.add rfl rfl rfl (fits64 (by omega) (by omega))) ?_
        refine RunL.still rfl rfl rfl (Still.assign rfl rfl) ?_
        refine RunL.nil ?_
        refine Ends.again (v, c + 1) ?_ ?_ (Fr.Sub.app ?_ ?_) ?_
        · show c + 1 ≤ _; omega
        · show _ - (c + 1) < _ - c; omega
        · exact Fr.Sub.cons rfl (Fr.Sub.cons rfl (Fr.Sub.nil _))
        · exact Fr.Sub.cons rfl (Fr.Sub.nil _)
        · exact HSub.pick 0 (by have e : (List.range (c + 1)).filter (connB d a) = (List.range c).filter (connB d a) := (by rw [List.range_succ, List.filter_append]; simp [h61]); rw [e]; rfl) (HSub.pick 0 rfl (HSub.pick 0 rfl (HSub.nil _)))
    · have h55 := of_decide_eq_false h55
      obtain rfl : c = d.cross.length := by omega
      refine RunC.exit ?_
      refine Ends.then_exit ?_
      refine Ends.then_exit ?_
      refine Ends.block_exit ?_
      refine Ends.then ?_
      refine RunC.seq ?_
      refine RunC.region ?_
      refine RunL.still rfl rfl rfl (Still.move rfl rfl) ?_
      refine RunL.still rfl rfl rfl (Still.assign rfl rfl) ?_
      refine RunL.nil ?_
      refine Ends.then ?_
      refine RunC.ret ?_
      refine Ends.leave (.inl rfl) (fun _ _ ok => results1 Tryz.results51 (Holds.tmp rfl) ok) (fun w1 hs => ?_)
      exact Ret.intro v (own_shape (hs.own (i := 0) rfl)) rfl (HSub.pick 0 rfl (HSub.nil _)) hs

theorem ref_Planar (base : Option Addr) (A : Addr) (cap : Nat) (d : Dia) (w : World) (hd : DiaAt w base A d) (hs0 : SoundP d) : Gives Tryz.prog 35 #[diaV base cap d] w Nil (fun _ : Unit => True) (fun _ => .bool (planarB d)) (fun _ => []) := by
  have h200 := hs0.1
  refine fn_of_run (S := Nil) (args := [diaV base cap d]) (n := 57) (L := []) Tryz.func35 rfl Tryz.ntmps35 (Nat.le_of_ble_eq_true rfl) (Sym.nil _ _) ?_
  change RunC _ _ _ [(0, _)] _
  refine RunC.seq ?_
  refine RunC.region ?_
  refine RunL.grows rfl rfl rfl (Grows.box rfl rfl) (fun b1 _ => ?_)
  refine RunL.still rfl rfl rfl (Still.assign rfl rfl) ?_
  refine RunL.nil ?_
  refine Ends.then ?_
  refine RunC.seq ?_
  refine RunC.region ?_
  refine RunL.still rfl rfl rfl (Still.loads rfl rfl Tryz.isAgg24 Tryz.sizeOf24 (vs := [_, _]) rfl (fun _ hs => cells_nth (hs.at (i := 0) rfl) ⟨rfl, ⟨rfl, trivial⟩⟩)) ?_
  refine RunL.grows rfl rfl rfl (Grows.call (vs := #[_]) rfl rfl Tryz.call73 (fun w hs => ref_Regions base A cap d w (hd.sym hs) hs0)) (fun ⟨vr, rs⟩ hrs => ?_)
  obtain ⟨hrs1, hrs2⟩ := hrs
  change rs.map Prod.snd = _ at hrs1
  change ∀ a ∈ rs, _ at hrs2
  have hrl := regsTo_as_len hrs1
  have hvr : (vr, rs).2.length = rs.length := rfl
  refine RunL.still rfl rfl rfl (Still.assign rfl rfl) ?_
  refine RunL.nil ?_
  refine Ends.then ?_
  refine RunC.seq ?_
  refine RunC.seq ?_
  refine RunC.region ?_
  refine RunL.still rfl rfl rfl (Still.assign rfl rfl) ?_
  refine RunL.nil ?_
  refine Ends.then ?_
  refine RunC.block ?_
  refine RunC.loop2 (γ := Nat) (keep := [(1, _), (3, _)]) (hkeep := [_, _, _]) (fun c => c ≤ d.cross.length ∧ ∀ c', c' < c → cntReg d c' = (pieceOf d c').length + 2) (fun c => d.cross.length - c) (fun c => [(4, iv c)]) (fun c => []) 0 ⟨by omega, fun c h => by omega⟩ (Fr.Sub.cons rfl (Fr.Sub.nil _)) (Fr.Sub.cons rfl (Fr.Sub.cons rfl (Fr.Sub.nil _))) (HSub.pick 0 rfl (HSub.pick 0 rfl (HSub.pick 0 rfl (HSub.nil _)))) ?_
  rintro c ⟨hc, hpl⟩
  refine RunC.seq ?_
  refine RunC.seq ?_
  refine RunC.region ?_
  refine RunL.still rfl rfl rfl (Still.move rfl rfl) ?_
  refine RunL.still rfl rfl rfl (Still.fieldAddrL (off := 0) (off' := 0) rfl rfl Tryz.underlying24 rfl Tryz.sizeOf22 rfl) ?_
  refine RunL.still rfl rfl rfl (Still.load rfl rfl Tryz.isAgg22 (fun _ hs => cell_nth (hs.at (i := 2) rfl) rfl)) ?_
  refine RunL.still rfl rfl rfl (Still.lenSlice rfl rfl Tryz.underlying22) ?_
  refine RunL.still rfl rfl rfl (Still.lss rfl rfl rfl) ?_
  refine RunL.nil ?_
  refine Ends.then ?_
  refine RunC.cond rfl (fun h15 => ?_) (fun h15 => ?_)
  · have h15 := of_decide_eq_true h15
    refine RunC.skip ?_
    refine Ends.then ?_
    refine RunC.seq ?_
    refine RunC.block ?_
    refine RunC.seq ?_
    refine RunC.region ?_
    refine RunL.still rfl rfl rfl (Still.loads rfl rfl Tryz.isAgg24 Tryz.sizeOf24 (vs := [_, _]) rfl (fun _ hs => cells_nth (hs.at (i := 2) rfl) ⟨rfl, ⟨rfl, trivial⟩⟩)) ?_
    refine RunL.still rfl rfl rfl (Still.move rfl rfl) ?_
    refine RunL.grows rfl rfl rfl (Grows.call (vs := #[_, _]) rfl rfl Tryz.call51 (fun w hs => ref_Piece base A cap d c w (hd.sym hs) hs0 (by omega))) (fun vp hvp => ?_)
    obtain ⟨m, hm⟩ := piece_first d (c := c) (by omega)
    have hpl2 := piece_len d c
    have hm0 : 0 < (pieceOf d c).length := (List.getElem?_eq_some_iff.1 hm).1
    refine RunL.still rfl rfl rfl (Still.assign rfl rfl) ?_
    refine RunL.nil ?_
    refine Ends.then ?_
    refine RunC.seq ?_
    refine RunC.seq ?_
    refine RunC.region ?_
    refine RunL.still rfl rfl rfl (Still.move rfl rfl) ?_
    refine RunL.still rfl rfl rfl (Still.indexOwn rfl rfl rfl Tryz.underlying36 Tryz.sizeOf3 (fun _ hs => hs.own (i := 0) rfl) (by omega)) ?_
    refine RunL.still rfl rfl rfl (Still.load rfl rfl Tryz.isAgg3 (fun w hs => own_at (hs.own (i := 0) rfl) (ints_get (m := 0) (y := (m : Int)) (by simp [hm])))) ?_
    refine RunL.still rfl rfl rfl (Still.move rfl rfl) ?_
    refine RunL.still rfl rfl rfl (Still.neq rfl rfl rfl) ?_
    refine RunL.nil ?_
    refine Ends.then ?_
    refine RunC.cond rfl (fun h25 => ?_) (fun h25 => ?_)
    · have h25 := of_decide_eq_true h25
      refine RunC.exit ?_
      refine Ends.then_exit ?_
      refine Ends.block_exit ?_
      refine Ends.then ?_
      refine RunC.region ?_
      refine RunL.still rfl rfl rfl (Still.move rfl rfl) ?_
      refine RunL.still rfl rfl rfl (Still.add rfl rfl rfl (fits64 (by omega) (by omega))) ?_
      refine RunL.still rfl rfl rfl (Still.assign rfl rfl) ?_
      refine RunL.nil ?_
      refine Ends.again (c + 1) ?_ ?_ (Fr.Sub.app ?_ ?_) ?_
      · exact ⟨by omega, fun c' h => by rcases Nat.lt_or_ge c' c with h2 | h2; exact hpl c' h2; obtain rfl : c' = c := (by omega); exact planar_other hs0 (by omega) hm hpl h25⟩
      · show _ < _; omega
      · exact Fr.Sub.cons rfl (Fr.Sub.nil _)
      · exact Fr.Sub.cons rfl (Fr.Sub.cons rfl (Fr.Sub.nil _))
      · exact HSub.pick 1 rfl (HSub.pick 1 rfl (HSub.pick 1 rfl (HSub.nil _)))
    · have h25 := of_decide_eq_false h25
      refine RunC.skip ?_
      refine Ends.then ?_
      refine RunC.seq ?_
      refine RunC.region ?_
      refine RunL.still rfl rfl rfl (Still.assign rfl rfl) ?_
      refine RunL.nil ?_
      refine Ends.then ?_
      refine RunC.seq ?_
      refine RunC.seq ?_
      refine RunC.region ?_
      refine RunL.still rfl rfl rfl (Still.assign rfl rfl) ?_
      refine RunL.nil ?_
      refine Ends.then ?_
      refine RunC.block ?_
      refine RunC.loop2 (γ := Nat) (keep := [(1, _), (3, _), (4, _), (5, _)]) (hkeep := [_, _, _, _]) (fun i => i ≤ rs.length) (fun i => rs.length - i) (fun i => [(6, iv (((rs.take i).filter fun a => connB d c (a.2.headD 0 / 4)).length : Nat)), (7, iv i)]) (fun i => []) 0 (by omega) (Fr.Sub.cons rfl (Fr.Sub.cons rfl (Fr.Sub.nil _))) (Fr.Sub.cons rfl (Fr.Sub.cons rfl (Fr.Sub.cons rfl (Fr.Sub.cons rfl (Fr.Sub.nil _))))) (HSub.pick 0 rfl (HSub.pick 0 rfl (HSub.pick 0 rfl (HSub.pick 0 rfl (HSub.nil _))))) ?_
      rintro i hi
      have hfi : ((rs.take i).filter fun a => connB d c (a.2.headD 0 / 4)).length ≤ i := by have h1 := List.length_filter_le (fun a : Value × List Nat => connB d c (a.2.headD 0 / 4)) (rs.take i); have h2 := List.length_take_le i rs; omega
      refine RunC.seq ?_
      refine RunC.seq ?_
      refine RunC.region ?_
      refine RunL.still rfl rfl rfl (Still.move rfl rfl) ?_
      refine RunL.still rfl rfl rfl (Still.move rfl rfl) ?_
      refine RunL.still rfl rfl rfl (Still.lenOwn rfl rfl Tryz.underlying45 (fun _ hs => hs.own (i := 1) rfl)) ?_
      refine RunL.still rfl rfl rfl (Still.lss rfl rfl rfl) ?_
      refine RunL.nil ?_
      refine Ends.then ?_
      refine RunC.cond rfl (fun h29 => ?_) (fun h29 => ?_)
      · have h29 := of_decide_eq_true h29
        obtain ⟨a, ha⟩ := get_of_lt (l := rs) (i := i) (by omega)
        have hra := hrs2 a (List.mem_of_getElem? ha)
        obtain ⟨hq4, ha0⟩ := regs_head hrs1 (Nat.le_refl _) (List.mem_of_getElem? ha)
        have ha00 : 0 < a.2.length := (List.getElem?_eq_some_iff.1 ha0).1
        refine RunC.skip ?_
        refine Ends.then ?_
        refine RunC.seq ?_
        refine RunC.block ?_
        refine RunC.seq ?_
        refine RunC.region ?_
        refine RunL.still rfl rfl rfl (Still.assign rfl rfl) ?_
        refine RunL.nil ?_
        refine Ends.then ?_
        refine RunC.block ?_
        refine RunC.loop2 (γ := Nat) (keep := [(1, _), (3, _), (4, _), (5, _), (7, _)]) (hkeep := [_, _, _, _]) (fun k => k ≤ (pieceOf d c).length) (fun k => (pieceOf d c).length - k) (fun k => [(6, iv ((((rs.take i).filter fun a => connB d c (a.2.headD 0 / 4)).length + (bif ((pieceOf d c).take k).contains (a.2.headD 0 / 4) then 1 else 0) : Nat) : Int)), (8, iv k)]) (fun k => []) 0 (by omega) (Fr.Sub.cons rfl (Fr.Sub.cons rfl (Fr.Sub.nil _))) (Fr.Sub.cons rfl (Fr.Sub.cons rfl (Fr.Sub.cons rfl (Fr.Sub.cons rfl (Fr.Sub.cons rfl (Fr.Sub.nil _)))))) (HSub.pick 0 rfl (HSub.pick 0 rfl (HSub.pick 0 rfl (HSub.pick 0 rfl (HSub.nil _))))) ?_
        rintro k hk
        have hbb : (bif ((pieceOf d c).take k).contains (a.2.headD 0 / 4) then 1 else 0) ≤ 1 := by cases ((pieceOf d c).take k).contains (a.2.headD 0 / 4) <;> decide
        refine RunC.seq ?_
        refine RunC.seq ?_
        refine RunC.region ?_
        refine RunL.still rfl rfl rfl (Still.move rfl rfl) ?_
        refine RunL.still rfl rfl rfl (Still.move rfl rfl) ?_
        refine RunL.still rfl rfl rfl (Still.lenOwn rfl rfl Tryz.underlying36 (fun _ hs => hs.own (i := 0) rfl)) ?_
        refine RunL.still rfl rfl rfl (Still.lss rfl rfl rfl) ?_
        refine RunL.nil ?_
        refine Ends.then ?_
        refine RunC.cond rfl (fun h35 => ?_) (fun h35 => ?_)
        · have h35 := of_decide_eq_true h35
          obtain ⟨y, hy⟩ := get_of_lt (l := pieceOf d c) (i := k) (by omega)
          refine RunC.skip ?_
          refine Ends.then ?_
          refine RunC.seq ?_
          refine RunC.block ?_
          refine RunC.seq ?_
          refine RunC.draw 11 (.still 0 (.still 1 (.still 2 (.still 3 (.still 4 (.still 5 (.still 6 (.still 7 (.still 8 (.still 9 (.still 10 .done))))))))))) (by kernel_rfl) (by kernel_rfl) ?_
          refine RunG.still rfl rfl rfl rfl (Still.move rfl rfl) ?_
          refine RunG.still rfl rfl rfl rfl (Still.move rfl rfl) ?_
          refine RunG.still rfl rfl rfl rfl (Still.indexOwn rfl rfl rfl Tryz.underlying45 Tryz.sizeOf113 (fun _ hs => hs.own (i := 1) rfl) (by omega)) ?_
          refine RunG.still rfl rfl rfl rfl (Still.load rfl rfl Tryz.isAgg113 (fun w hs => own_at (hs.own (i := 1) rfl) (fst_get ha))) ?_
          refine RunG.still rfl rfl rfl rfl (Still.indexV _ rfl rfl rfl Tryz.underlying113 Tryz.sizeOf110 (hra) (rfl) (by omega)) ?_
          refine RunG.still rfl rfl rfl rfl (Still.fieldAddrA (off := 0) rfl rfl Tryz.underlying110 rfl Tryz.sizeOf3 rfl) ?_
          refine RunG.still rfl rfl rfl rfl (Still.load rfl rfl Tryz.isAgg3 (fun _ hs => cells_at2 (own_all (rows_get (mk := regHL) (hs.at (i := 2) rfl) ha)) (encQ_at (m := 0) (q := a.2.headD 0) ha0 0 _ rfl))) ?_
          refine RunG.still rfl rfl rfl rfl (Still.move rfl rfl) ?_
          refine RunG.still rfl rfl rfl rfl (Still.move rfl rfl) ?_
          refine RunG.still rfl rfl rfl rfl (Still.indexOwn rfl rfl rfl Tryz.underlying36 Tryz.sizeOf3 (fun _ hs => hs.own (i := 0) rfl) (by omega)) ?_
          refine RunG.still rfl rfl rfl rfl (Still.load rfl rfl Tryz.isAgg3 (fun w hs => own_at (hs.own (i := 0) rfl) (ints_get (m := k) (y := (y : Int)) (by simp [hy])))) ?_
          refine RunG.done ?_
          show RunL _ _ _ [_] _ _
          refine RunL.still rfl rfl rfl (Still.eql rfl rfl rfl) ?_
          refine RunL.nil ?_
          refine Ends.then ?_
          refine RunC.cond rfl (fun h49 => ?_) (fun h49 => ?_)
          · have h49 := of_decide_eq_true h49
            refine RunC.region ?_
            refine RunL.still rfl rfl rfl (Still.move rfl rfl) ?_
            refine RunL.still rfl rfl rfl (Still.add rfl rfl rfl (fits64 (by omega) (by omega))) ?_
            refine RunL.still rfl rfl rfl (Still.assign rfl rfl) ?_
            refine RunL.nil ?_
            refine Ends.block ?_
            refine Ends.then ?_
            refine RunC.region ?_
            refine RunL.still rfl rfl rfl (Still.move rfl rfl) ?_
            refine RunL.still rfl rfl rfl (Still.add rfl rfl rfl (fits64 (by omega) (by omega))) ?_
            refine RunL.still rfl rfl rfl (Still.assign rfl rfl) ?_
            refine RunL.nil ?_
            refine Ends.again (k + 1) ?_ ?_ (Fr.Sub.app ?_ ?_) ?_
            · show _; omega
            · show _ < _; omega
            · exact Fr.Sub.cons (by rw [take_has hy, decide_eq_true (show a.2.headD 0 / 4 = y by omega), take_fresh (piece_nodup d c) hy (show a.2.headD 0 / 4 = y by omega)]; rfl) (Fr.Sub.cons rfl (Fr.Sub.nil _))
            · exact Fr.Sub.cons rfl (Fr.Sub.cons rfl (Fr.Sub.cons rfl (Fr.Sub.cons rfl (Fr.Sub.cons rfl (Fr.Sub.nil _)))))
            · exact HSub.pick 0 rfl (HSub.pick 0 rfl (HSub.pick 0 rfl (HSub.pick 0 rfl (HSub.nil _))))
          · have h49 := of_decide_eq_false h49
            refine RunC.skip ?_
            refine Ends.block ?_
            refine Ends.then ?_
            refine RunC.region ?_
            refine RunL.still rfl rfl rfl (Still.move rfl rfl) ?_
            refine RunL.still rfl rfl rfl (Still.add rfl rfl rfl (fits64 (by omega) (by omega))) ?_
            refine RunL.still rfl rfl rfl (Still.assign rfl rfl) ?_
            refine RunL.nil ?_
            refine Ends.again (k + 1) ?_ ?_ (Fr.Sub.app ?_ ?_) ?_
            · show _; omega
            · show _ < _; omega
            · exact Fr.Sub.cons (by rw [take_has hy, decide_eq_false (show ¬ a.2.headD 0 / 4 = y by omega), Bool.or_false]; rfl) (Fr.Sub.cons rfl (Fr.Sub.nil _))
            · exact Fr.Sub.cons rfl (Fr.Sub.cons rfl (Fr.Sub.cons rfl (Fr.Sub.cons rfl (Fr.Sub.cons rfl (Fr.Sub.nil _)))))
            · exact HSub.pick 0 rfl (HSub.pick 0 rfl (HSub.pick 0 rfl (HSub.pick 0 rfl (HSub.nil _))))
        · have h35 := of_decide_eq_false h35
          refine RunC.exit ?_
          refine Ends.then_exit ?_
          refine Ends.then_exit ?_
          refine Ends.block_exit ?_
          refine Ends.block ?_
          refine Ends.then ?_
          refine RunC.region ?_
          refine RunL.still rfl rfl rfl (Still.move rfl rfl) ?_
          refine RunL.still rfl rfl rfl (Still.add rfl rfl rfl (fits64 (by omega) (by omega))) ?_
          refine RunL.still rfl rfl rfl (Still.assign rfl rfl) ?_
          refine RunL.nil ?_
          refine Ends.again (i + 1) ?_ ?_ (Fr.Sub.app ?_ ?_) ?_
          · show _; omega
          · show _ < _; omega
          · exact Fr.Sub.cons (by rw [List.take_add_one, ha, List.filter_append, List.length_append, show (pieceOf d c).take k = pieceOf d c from List.take_of_length_le (by omega), piece_has hq4]; simp only [Option.toList, List.filter_cons, List.filter_nil]; cases connB d c (a.2.headD 0 / 4) <;> rfl) (Fr.Sub.cons rfl (Fr.Sub.nil _))
          · exact Fr.Sub.cons rfl (Fr.Sub.cons rfl (Fr.Sub.cons rfl (Fr.Sub.cons rfl (Fr.Sub.nil _))))
          · exact HSub.pick 0 rfl (HSub.pick 0 rfl (HSub.pick 0 rfl (HSub.pick 0 rfl (HSub.nil _))))
      · have h29 := of_decide_eq_false h29
        refine RunC.exit ?_
        refine Ends.then_exit ?_
        refine Ends.then_exit ?_
        refine Ends.block_exit ?_
        refine Ends.then ?_
        refine RunC.seq ?_
        refine RunC.region ?_
        refine RunL.still rfl rfl rfl (Still.move rfl rfl) ?_
        refine RunL.still rfl rfl rfl (Still.move rfl rfl) ?_
        refine RunL.still rfl rfl rfl (Still.lenOwn rfl rfl Tryz.underlying36 (fun _ hs => hs.own (i := 0) rfl)) ?_
        refine RunL.still rfl rfl rfl (Still.add rfl rfl rfl (fits64 (by omega) (by omega))) ?_
        refine RunL.still rfl rfl rfl (Still.neq rfl rfl rfl) ?_
        refine RunL.nil ?_
        refine Ends.then ?_
        refine RunC.cond rfl (fun h56 => ?_) (fun h56 => ?_)
        · have h56 := of_decide_eq_true h56
          refine RunC.seq ?_
          refine RunC.region ?_
          refine RunL.still rfl rfl rfl (Still.assign rfl rfl) ?_
          refine RunL.nil ?_
          refine Ends.then ?_
          refine RunC.ret ?_
          refine Ends.block_ret ?_
          refine Ends.then_ret ?_
          refine Ends.then_ret ?_
          refine Ends.block_ret ?_
          refine Ends.then_ret ?_
          refine Ends.leave (.inl rfl) (fun _ _ ok => results1 Tryz.results35 (Holds.tmp rfl) ok) (fun w1 hs => ?_)
          exact Ret.intro () trivial (planarB_false (fun h => by have h1 := h c (by omega); rw [cntReg_rs hrs1] at h1; rw [List.take_of_length_le (by omega)] at h56; omega)) (HSub.nil _) hs
        · have h56 := of_decide_eq_false h56
          refine RunC.skip ?_
          refine Ends.block ?_
          refine Ends.then ?_
          refine RunC.region ?_
          refine RunL.still rfl rfl rfl (Still.move rfl rfl) ?_
          refine RunL.still rfl rfl rfl (Still.add rfl rfl rfl (fits64 (by omega) (by omega))) ?_
          refine RunL.still rfl rfl rfl (Still.assign rfl rfl) ?_
          refine RunL.nil ?_
          have h1 := cntReg_rs hrs1 c
          rw [List.take_of_length_le (by omega)] at h56
          refine Ends.again (c + 1) ?_ ?_ (Fr.Sub.app ?_ ?_) ?_
          · exact ⟨by omega, fun c' h => by rcases Nat.lt_or_ge c' c with h2 | h2; exact hpl c' h2; obtain rfl : c' = c := (by omega); omega⟩
          · show _ < _; omega
          · exact Fr.Sub.cons rfl (Fr.Sub.nil _)
          · exact Fr.Sub.cons rfl (Fr.Sub.cons rfl (Fr.Sub.nil _))
          · exact HSub.pick 1 rfl (HSub.pick 1 rfl (HSub.pick 1 rfl (HSub.nil _)))
  · have h15 := of_decide_eq_false h15
    obtain rfl : c = d.cross.length := by omega
    refine RunC.exit ?_
    refine Ends.then_exit ?_
    refine Ends.then_exit ?_
    refine Ends.block_exit ?_
    refine Ends.then ?_
    refine RunC.seq ?_
    refine RunC.region ?_
    refine RunL.still rfl rfl rfl (Still.assign rfl rfl) ?_
    refine RunL.nil ?_
    refine Ends.then ?_
    refine RunC.ret ?_
    refine Ends.leave (.inl rfl) (fun _ _ ok => results1 Tryz.results35 (Holds.tmp rfl) ok) (fun w2 hs => ?_)
    exact Ret.intro () trivial (planarB_true (fun c h => hpl c h)) (HSub.nil _) hs

theorem ref_Check (base : Option Addr) (A : Addr) (cap : Nat) (d : Dia) (w : World) (hd : DiaAt w base A d) : Gives Tryz.prog 8 #[diaV base cap d] w Nil (fun _ : Unit => True) (fun _ => iv (checkI d)) (fun _ => []) := by
  refine fn_of_run (S := Nil) (args := [diaV base cap d]) (n := 9) (L := []) Tryz.func8 rfl Tryz.ntmps8 (Nat.le_of_ble_eq_true rfl) (Sym.nil _ _) ?_
  change RunC _ _ _ [(0, _)] _
  refine RunC.seq ?_
  refine RunC.region ?_
  refine RunL.grows rfl rfl rfl (Grows.box rfl rfl) (fun b1 _ => ?_)
  refine RunL.still rfl rfl rfl (Still.assign rfl rfl) ?_
  refine RunL.nil ?_
  refine Ends.then ?_
  refine RunC.seq ?_
  refine RunC.seq ?_
  refine RunC.region ?_
  refine RunL.still rfl rfl rfl (Still.loads rfl rfl Tryz.isAgg24 Tryz.sizeOf24 (vs := [_, _]) rfl (fun _ hs => cells_nth (hs.at (i := 0) rfl) ⟨rfl, ⟨rfl, trivial⟩⟩)) ?_
  refine RunL.grows rfl rfl rfl (Grows.call (vs := #[_]) rfl rfl Tryz.call34 (fun w hs => ref_Sound base A cap d w (hd.sym hs))) (fun _ _ => ?_)
  refine RunL.still rfl rfl rfl (Still.not rfl rfl) ?_
  refine RunL.nil ?_
  refine Ends.then ?_
  refine RunC.cond rfl (fun h5 => ?_) (fun h5 => ?_)
  · have hS : soundB d = false := by simpa using h5
    refine RunC.seq ?_
    refine RunC.region ?_
    refine RunL.still rfl rfl rfl (Still.assign rfl rfl) ?_
    refine RunL.nil ?_
    refine Ends.then ?_
    refine RunC.ret ?_
    refine Ends.then_ret ?_
    refine Ends.leave (.inl rfl) (fun _ _ ok => results1 Tryz.results8 (Holds.tmp rfl) ok) (fun w1 hs => ?_)
    exact Ret.intro () trivial (by rw [checkI, hS]; rfl) (HSub.nil _) hs
  · have hS : soundB d = true := by simpa using h5
    refine RunC.skip ?_
    refine Ends.then ?_
    refine RunC.seq ?_
    refine RunC.seq ?_
    refine RunC.region ?_
    refine RunL.still rfl rfl rfl (Still.loads rfl rfl Tryz.isAgg24 Tryz.sizeOf24 (vs := [_, _]) rfl (fun _ hs => cells_nth (hs.at (i := 0) rfl) ⟨rfl, ⟨rfl, trivial⟩⟩)) ?_
    refine RunL.grows rfl rfl rfl (Grows.call (vs := #[_]) rfl rfl Tryz.call35 (fun w hs => ref_Planar base A cap d w (hd.sym hs) (soundB_iff.1 hS))) (fun _ _ => ?_)
    refine RunL.still rfl rfl rfl (Still.not rfl rfl) ?_
    refine RunL.nil ?_
    refine Ends.then ?_
    refine RunC.cond rfl (fun h8 => ?_) (fun h8 => ?_)
    · have hP : planarB d = false := by simpa using h8
      refine RunC.seq ?_
      refine RunC.region ?_
      refine RunL.still rfl rfl rfl (Still.assign rfl rfl) ?_
      refine RunL.nil ?_
      refine Ends.then ?_
      refine RunC.ret ?_
      refine Ends.then_ret ?_
      refine Ends.leave (.inl rfl) (fun _ _ ok => results1 Tryz.results8 (Holds.tmp rfl) ok) (fun w2 hs => ?_)
      exact Ret.intro () trivial (by rw [checkI, hS, hP]; rfl) (HSub.nil _) hs
    · have hP : planarB d = true := by simpa using h8
      refine RunC.skip ?_
      refine Ends.then ?_
      refine RunC.seq ?_
      refine RunC.region ?_
      refine RunL.still rfl rfl rfl (Still.assign rfl rfl) ?_
      refine RunL.nil ?_
      refine Ends.then ?_
      refine RunC.ret ?_
      refine Ends.leave (.inl rfl) (fun _ _ ok => results1 Tryz.results8 (Holds.tmp rfl) ok) (fun w3 hs => ?_)
      exact Ret.intro () trivial (by rw [checkI, hS, hP]; rfl) (HSub.nil _) hs

end Go.Proofs
/- Equality of diagrams, and their count of components, by the reference. -/
namespace Go.Proofs
open Go Go.V
set_option maxRecDepth 20000
theorem eq69 (a b c f s a1 b1 c1 f1 s1 : Int) (w : World) : (Op.equalIn 10000 62 (.agg #[iv a, iv b, iv c, iv f, iv s]) (.agg #[iv a1, iv b1, iv c1, iv f1, iv s1])).run Tryz.prog w = .ok (decide (a = a1 ∧ b = b1 ∧ c = c1 ∧ f = f1 ∧ s = s1)) w := eq_five Tryz.underlying62 Tryz.stoodInHeld62 Tryz.underlying60 Tryz.underlying3 Tryz.underlying3 (by kernel_rfl : Tryz.prog.info? 3 = some Tryz.t3) (by kernel_rfl) Tryz.sizeOf60 (by decide) (by decide) rfl rfl 9997 _ _ _ _ _ _ _ _ _ _ w

theorem ref_Same (ba bb : Option Addr) (A B : Addr) (ca cb : Nat) (a b : Dia) (w : World) (hda : DiaAt w ba A a) (hdb : DiaAt w bb B b) : Gives Tryz.prog 11 #[diaV ba ca a, diaV bb cb b] w Nil (fun _ : Unit => True) (fun _ => .bool (decide (a = b))) (fun _ => []) := by
  have hlen := hda.len
  have hlen2 := hdb.len
  refine fn_of_run (S := Nil) (args := [diaV ba ca a, diaV bb cb b]) (n := 38) (L := []) Tryz.func11 rfl Tryz.ntmps11 (Nat.le_of_ble_eq_true rfl) (Sym.nil _ _) ?_
  change RunC _ _ _ [(0, _), (1, _)] _
  refine RunC.seq ?_
  refine RunC.region ?_
  refine RunL.grows rfl rfl rfl (Grows.box rfl rfl) (fun b2 _ => ?_)
  refine RunL.grows rfl rfl rfl (Grows.box rfl rfl) (fun b3 _ => ?_)
  refine RunL.still rfl rfl rfl (Still.assign rfl rfl) ?_
  refine RunL.nil ?_
  refine Ends.then ?_
  refine RunC.seq ?_
  refine RunC.seq ?_
  refine RunC.meet1 (chg := [(19, .bool (decide (a.loops ≠ b.loops ∨ (a.cross.length : Int) ≠ (b.cross.length : Int))))]) (keep := [(2, _), (3, _)]) (hkeep := [_, _]) (Fr.Sub.cons rfl (Fr.Sub.cons rfl (Fr.Sub.nil _))) (HSub.pick 0 rfl (HSub.pick 0 rfl (HSub.nil _))) ?_ ?_
  ·
    refine RunC.region ?_
    refine RunL.still rfl rfl rfl (Still.fieldAddrL (off := 0) (off' := 1) rfl rfl Tryz.underlying24 rfl Tryz.sizeOf3 rfl) ?_
    refine RunL.still rfl rfl rfl (Still.load rfl rfl Tryz.isAgg3 (fun _ hs => cell_nth (hs.at (i := 1) rfl) rfl)) ?_
    refine RunL.still rfl rfl rfl (Still.fieldAddrL (off := 0) (off' := 1) rfl rfl Tryz.underlying24 rfl Tryz.sizeOf3 rfl) ?_
    refine RunL.still rfl rfl rfl (Still.load rfl rfl Tryz.isAgg3 (fun _ hs => cell_nth (hs.at (i := 0) rfl) rfl)) ?_
    refine RunL.still rfl rfl rfl (Still.neq rfl rfl rfl) ?_
    refine RunL.still rfl rfl rfl (Still.move rfl rfl) ?_
    refine RunL.split (t := 11) rfl (fun h11 => ?_) (fun h11 => ?_)
    · have h11 := of_decide_eq_true h11
      refine RunL.off rfl rfl rfl ?_
      refine RunL.off rfl rfl rfl ?_
      refine RunL.off rfl rfl rfl ?_
      refine RunL.off rfl rfl rfl ?_
      refine RunL.off rfl rfl rfl ?_
      refine RunL.off rfl rfl rfl ?_
      refine RunL.off rfl rfl rfl ?_
      refine RunL.still rfl rfl rfl (Still.pickT rfl rfl rfl) ?_
      refine RunL.nil ?_
      exact Ends.meet1 (Fr.Sub.cons (by first | exact congrArg (fun b => some (Value.bool b)) (decide_eq_true (by omega)).symm | exact congrArg (fun b => some (Value.bool b)) (decide_eq_false (by omega)).symm | exact congrArg (fun b => some (Value.bool b)) (decide_eq_decide.2 (by omega))) (Fr.Sub.nil _)) (Fr.Sub.cons rfl (Fr.Sub.cons rfl (Fr.Sub.nil _))) (HSub.pick 0 rfl (HSub.pick 0 rfl (HSub.nil _)))
    · have h11 := of_decide_eq_false h11
      refine RunL.still rfl rfl rfl (Still.fieldAddrL (off := 0) (off' := 0) rfl rfl Tryz.underlying24 rfl Tryz.sizeOf22 rfl) ?_
      refine RunL.still rfl rfl rfl (Still.load rfl rfl Tryz.isAgg22 (fun _ hs => cell_nth (hs.at (i := 1) rfl) rfl)) ?_
      refine RunL.still rfl rfl rfl (Still.lenSlice rfl rfl Tryz.underlying22) ?_
      refine RunL.still rfl rfl rfl (Still.fieldAddrL (off := 0) (off' := 0) rfl rfl Tryz.underlying24 rfl Tryz.sizeOf22 rfl) ?_
      refine RunL.still rfl rfl rfl (Still.load rfl rfl Tryz.isAgg22 (fun _ hs => cell_nth (hs.at (i := 0) rfl) rfl)) ?_
      refine RunL.still rfl rfl rfl (Still.lenSlice rfl rfl Tryz.underlying22) ?_
      refine RunL.still rfl rfl rfl (Still.neq rfl rfl rfl) ?_
      refine RunL.still rfl rfl rfl (Still.pickF rfl rfl rfl) ?_
      refine RunL.nil ?_
      exact Ends.meet1 (Fr.Sub.cons (by first | exact congrArg (fun b => some (Value.bool b)) (decide_eq_true (by omega)).symm | exact congrArg (fun b => some (Value.bool b)) (decide_eq_false (by omega)).symm | exact congrArg (fun b => some (Value.bool b)) (decide_eq_decide.2 (by omega))) (Fr.Sub.nil _)) (Fr.Sub.cons rfl (Fr.Sub.cons rfl (Fr.Sub.nil _))) (HSub.pick 0 rfl (HSub.pick 0 rfl (HSub.nil _)))
  ·
    refine Ends.then ?_
    refine RunC.cond rfl (fun h19 => ?_) (fun h19 => ?_)
    · have h19 := of_decide_eq_true h19
      refine RunC.seq ?_
      refine RunC.region ?_
      refine RunL.still rfl rfl rfl (Still.assign rfl rfl) ?_
      refine RunL.nil ?_
      refine Ends.then ?_
      refine RunC.ret ?_
      refine Ends.then_ret ?_
      refine Ends.leave (.inl rfl) (fun _ _ ok => results1 Tryz.results11 (Holds.tmp rfl) ok) (fun w1 hs => ?_)
      exact Ret.intro () trivial (congrArg Value.bool (decide_eq_false (fun e => by subst e; omega)).symm) (HSub.nil _) hs
    · have h19 := of_decide_eq_false h19
      refine RunC.skip ?_
      refine Ends.then ?_
      refine RunC.seq ?_
      refine RunC.seq ?_
      refine RunC.region ?_
      refine RunL.still rfl rfl rfl (Still.assign rfl rfl) ?_
      refine RunL.nil ?_
      refine Ends.then ?_
      refine RunC.block ?_
      refine RunC.loop2 (γ := Nat) (keep := [(2, _), (3, _)]) (hkeep := [_, _]) (fun i => i ≤ a.cross.length ∧ ∀ j, j < i → a.cross[j]? = b.cross[j]?) (fun i => a.cross.length - i) (fun i => [(5, iv i)]) (fun i => []) 0 ⟨by omega, fun j h => by omega⟩ (Fr.Sub.cons rfl (Fr.Sub.nil _)) (Fr.Sub.cons rfl (Fr.Sub.cons rfl (Fr.Sub.nil _))) (HSub.pick 0 rfl (HSub.pick 0 rfl (HSub.nil _))) ?_
      rintro i ⟨hi, he⟩
      refine RunC.seq ?_
      refine RunC.seq ?_
      refine RunC.region ?_
      refine RunL.still rfl rfl rfl (Still.move rfl rfl) ?_
      refine RunL.still rfl rfl rfl (Still.fieldAddrL (off := 0) (off' := 0) rfl rfl Tryz.underlying24 rfl Tryz.sizeOf22 rfl) ?_
      refine RunL.still rfl rfl rfl (Still.load rfl rfl Tryz.isAgg22 (fun _ hs => cell_nth (hs.at (i := 1) rfl) rfl)) ?_
      refine RunL.still rfl rfl rfl (Still.lenSlice rfl rfl Tryz.underlying22) ?_
      refine RunL.still rfl rfl rfl (Still.lss rfl rfl rfl) ?_
      refine RunL.nil ?_
      refine Ends.then ?_
      refine RunC.cond rfl (fun h24 => ?_) (fun h24 => ?_)
      · have h24 := of_decide_eq_true h24
        obtain ⟨x, hx⟩ := get_of_lt (l := a.cross) (i := i) (by omega)
        obtain ⟨y, hy⟩ := get_of_lt (l := b.cross) (i := i) (by omega)
        refine RunC.skip ?_
        refine Ends.then ?_
        refine RunC.seq ?_
        refine RunC.block ?_
        refine RunC.seq ?_
        refine RunC.draw 10 (.still 0 (.still 1 (.still 2 (.still 3 (.still 4 (.still 5 (.still 6 (.still 7 (.still 8 (.still 9 .done)))))))))) (by kernel_rfl) (by kernel_rfl) ?_
        refine RunG.still rfl rfl rfl rfl (Still.fieldAddrL (off := 0) (off' := 0) rfl rfl Tryz.underlying24 rfl Tryz.sizeOf22 rfl) ?_
        refine RunG.still rfl rfl rfl rfl (Still.load rfl rfl Tryz.isAgg22 (fun _ hs => cell_nth (hs.at (i := 1) rfl) rfl)) ?_
        refine RunG.still rfl rfl rfl rfl (Still.move rfl rfl) ?_
        refine RunG.still rfl rfl rfl rfl (Still.indexSliceN rfl rfl rfl Tryz.underlying22 Tryz.sizeOf62 (hda.base (by omega)) (by omega)) ?_
        refine RunG.still rfl rfl rfl rfl (Still.loads rfl rfl Tryz.isAgg62 Tryz.sizeOf62 (vs := [iv x.a0, iv x.a1, iv x.a2, iv x.a3, iv x.s]) rfl (fun _ hs => Cells.base0 (hda.cross hx) hs)) ?_
        refine RunG.still rfl rfl rfl rfl (Still.fieldAddrL (off := 0) (off' := 0) rfl rfl Tryz.underlying24 rfl Tryz.sizeOf22 rfl) ?_
        refine RunG.still rfl rfl rfl rfl (Still.load rfl rfl Tryz.isAgg22 (fun _ hs => cell_nth (hs.at (i := 0) rfl) rfl)) ?_
        refine RunG.still rfl rfl rfl rfl (Still.move rfl rfl) ?_
        refine RunG.still rfl rfl rfl rfl (Still.indexSliceN rfl rfl rfl Tryz.underlying22 Tryz.sizeOf62 (hdb.base (by omega)) (by omega)) ?_
        refine RunG.still rfl rfl rfl rfl (Still.loads rfl rfl Tryz.isAgg62 Tryz.sizeOf62 (vs := [iv y.a0, iv y.a1, iv y.a2, iv y.a3, iv y.s]) rfl (fun _ hs => Cells.base0 (hdb.cross hy) hs)) ?_
        refine RunG.done ?_
        show RunL _ _ _ [_] _ _
        refine RunL.still rfl rfl rfl (Still.neqAgg rfl rfl rfl Tryz.eqGuardType62 (fun _ => eq69 _ _ _ _ _ _ _ _ _ _ _)) ?_
        refine RunL.nil ?_
        refine Ends.then ?_
        refine RunC.cond rfl (fun h37 => ?_) (fun h37 => ?_)
        · skip
          refine RunC.seq ?_
          refine RunC.region ?_
          refine RunL.still rfl rfl rfl (Still.assign rfl rfl) ?_
          refine RunL.nil ?_
          refine Ends.then ?_
          refine RunC.ret ?_
          refine Ends.block_ret ?_
          refine Ends.then_ret ?_
          refine Ends.then_ret ?_
          refine Ends.block_ret ?_
          refine Ends.then_ret ?_
          refine Ends.leave (.inl rfl) (fun _ _ ok => results1 Tryz.results11 (Holds.tmp rfl) ok) (fun w2 hs => ?_)
          exact Ret.intro () trivial (congrArg Value.bool (decide_eq_false (fun e => by subst e; rw [hx] at hy; cases hy; simp at h37)).symm) (HSub.nil _) hs
        · skip
          refine RunC.skip ?_
          refine Ends.block ?_
          refine Ends.then ?_
          refine RunC.region ?_
          refine RunL.still rfl rfl rfl (Still.move rfl rfl) ?_
          refine RunL.still rfl rfl rfl (Still.add rfl rfl rfl (fits64 (by omega) (by omega))) ?_
          refine RunL.still rfl rfl rfl (Still.assign rfl rfl) ?_
          refine RunL.nil ?_
          have hxy : x = y := by obtain ⟨x0, x1, x2, x3, xs⟩ := x; obtain ⟨y0, y1, y2, y3, ys⟩ := y; simp at h37; simp [h37]
          refine Ends.again (i + 1) ?_ ?_ (Fr.Sub.app ?_ ?_) ?_
          · exact ⟨by omega, fun j h => by rcases Nat.lt_or_ge j i with h2 | h2; exact he j h2; obtain rfl : j = i := (by omega); rw [hx, hy, hxy]⟩
          · show _ < _; omega
          · exact Fr.Sub.cons rfl (Fr.Sub.nil _)
          · exact Fr.Sub.cons rfl (Fr.Sub.cons rfl (Fr.Sub.nil _))
          · exact HSub.pick 0 rfl (HSub.pick 0 rfl (HSub.nil _))
      · have h24 := of_decide_eq_false h24
        refine RunC.exit ?_
        refine Ends.then_exit ?_
        refine Ends.then_exit ?_
        refine Ends.block_exit ?_
        refine Ends.then ?_
        refine RunC.seq ?_
        refine RunC.region ?_
        refine RunL.still rfl rfl rfl (Still.assign rfl rfl) ?_
        refine RunL.nil ?_
        refine Ends.then ?_
        refine RunC.ret ?_
        refine Ends.leave (.inl rfl) (fun _ _ ok => results1 Tryz.results11 (Holds.tmp rfl) ok) (fun w3 hs => ?_)
        exact Ret.intro () trivial (congrArg Value.bool (decide_eq_true (by have hc : a.cross = b.cross := List.ext_getElem? fun j => (by rcases Nat.lt_or_ge j a.cross.length with h | h; exact he j (by omega); rw [List.getElem?_eq_none (by omega), List.getElem?_eq_none (by omega)]); obtain ⟨ac, al⟩ := a; obtain ⟨bc, bl⟩ := b; simp at h19 hc ⊢; exact ⟨hc, by omega⟩)).symm) (HSub.nil _) hs

theorem ref_Same_eq (ba bb : Option Addr) (A B : Addr) (ca cb : Nat) (a b : Dia) (w : World) (hda : DiaAt w ba A a) (hdb : DiaAt w bb B b) (e : a = b) : Gives Tryz.prog 11 #[diaV ba ca a, diaV bb cb b] w Nil (fun _ : Unit => True) (fun _ => .bool true) (fun _ => []) := by
  have h := ref_Same ba bb A B ca cb a b w hda hdb
  rwa [decide_eq_true e] at h

end Go.Proofs
/- Contracts of the changes that the reference makes, chapter 22. -/
namespace Go.Proofs
open Go Go.V
set_option maxRecDepth 20000
theorem ref_contains (v : Value) (xs : List Int) (n : Int) (w : World) (hv : Shape v xs.length) (hc : Cells w (vaddr v) (ints xs)) (hl : xs.length ≤ 9223372036854775807) : Gives Tryz.prog 92 #[v, iv n] w Nil (fun _ : Unit => True) (fun _ => .bool (decide (n ∈ xs))) (fun _ => []) := by
  refine fn_of_run (S := Nil) (args := [v, iv n]) (n := 18) (L := []) Tryz.func92 rfl Tryz.ntmps92 (Nat.le_of_ble_eq_true rfl) (Sym.nil _ _) ?_
  change RunC _ _ _ [(0, _), (1, _)] _
  refine RunC.seq ?_
  refine RunC.region ?_
  refine RunL.still rfl rfl rfl (Still.assign rfl rfl) ?_
  refine RunL.nil ?_
  refine Ends.then ?_
  refine RunC.seq ?_
  refine RunC.seq ?_
  refine RunC.region ?_
  refine RunL.still rfl rfl rfl (Still.assign rfl rfl) ?_
  refine RunL.nil ?_
  refine Ends.then ?_
  refine RunC.block ?_
  refine RunC.loop2 (γ := Nat) (keep := [(0, _), (1, _)]) (hkeep := []) (fun i => i ≤ xs.length ∧ ∀ j y, j < i → xs[j]? = some y → y ≠ n) (fun i => xs.length - i) (fun i => [(5, iv i)]) (fun i => []) 0 ⟨by omega, fun j y h => by omega⟩ (Fr.Sub.cons rfl (Fr.Sub.nil _)) (Fr.Sub.cons rfl (Fr.Sub.cons rfl (Fr.Sub.nil _))) (HSub.nil _) ?_
  rintro i ⟨hi, hno⟩
  refine RunC.seq ?_
  refine RunC.seq ?_
  refine RunC.region ?_
  refine RunL.still rfl rfl rfl (Still.move rfl rfl) ?_
  refine RunL.still rfl rfl rfl (Still.move rfl rfl) ?_
  refine RunL.still rfl rfl rfl (Still.lenV rfl rfl Tryz.underlying36 (hv)) ?_
  refine RunL.still rfl rfl rfl (Still.lss rfl rfl rfl) ?_
  refine RunL.nil ?_
  refine Ends.then ?_
  refine RunC.cond rfl (fun h9 => ?_) (fun h9 => ?_)
  · have h9 := of_decide_eq_true h9
    obtain ⟨y, hy⟩ := get_of_lt (l := xs) (i := i) (by omega)
    refine RunC.skip ?_
    refine Ends.then ?_
    refine RunC.seq ?_
    refine RunC.block ?_
    refine RunC.seq ?_
    refine RunC.region ?_
    refine RunL.still rfl rfl rfl (Still.move rfl rfl) ?_
    refine RunL.still rfl rfl rfl (Still.move rfl rfl) ?_
    refine RunL.still rfl rfl rfl (Still.indexV _ rfl rfl rfl Tryz.underlying36 Tryz.sizeOf3 (hv) (rfl) (by omega)) ?_
    refine RunL.still rfl rfl rfl (Still.load rfl rfl Tryz.isAgg3 (fun _ hs => cells_at (Cells.base0 hc hs) (ints_get hy))) ?_
    refine RunL.still rfl rfl rfl (Still.move rfl rfl) ?_
    refine RunL.still rfl rfl rfl (Still.eql rfl rfl rfl) ?_
    refine RunL.nil ?_
    refine Ends.then ?_
    refine RunC.cond rfl (fun h17 => ?_) (fun h17 => ?_)
    · have h17 := of_decide_eq_true h17
      refine RunC.seq ?_
      refine RunC.region ?_
      refine RunL.still rfl rfl rfl (Still.assign rfl rfl) ?_
      refine RunL.nil ?_
      refine Ends.then ?_
      refine RunC.ret ?_
      refine Ends.block_ret ?_
      refine Ends.then_ret ?_
      refine Ends.then_ret ?_
      refine Ends.block_ret ?_
      refine Ends.then_ret ?_
      refine Ends.leave (.inl rfl) (fun _ _ ok => results1 Tryz.results92 (Holds.tmp rfl) ok) (fun w1 hs => ?_)
      exact Ret.intro () trivial (congrArg Value.bool (decide_eq_true (by rw [← h17]; exact List.mem_of_getElem? hy)).symm) (HSub.nil _) hs
    · have h17 := of_decide_eq_false h17
      refine RunC.skip ?_
      refine Ends.block ?_
      refine Ends.then ?_
      refine RunC.region ?_
      refine RunL.still rfl rfl rfl (Still.move rfl rfl) ?_
      refine RunL.still rfl rfl rfl (Still.add rfl rfl rfl (fits64 (by omega) (by omega))) ?_
      refine RunL.still rfl rfl rfl (Still.assign rfl rfl) ?_
      refine RunL.nil ?_
      refine Ends.again (i + 1) ?_ ?_ (Fr.Sub.app ?_ ?_) ?_
      · exact ⟨by omega, fun j z hj hz => by rcases Nat.lt_or_ge j i with h | h; exact hno j z h hz; obtain rfl : j = i := (by omega); rw [hy] at hz; cases hz; exact h17⟩
      · show _ < _; omega
      · exact Fr.Sub.cons rfl (Fr.Sub.nil _)
      · exact Fr.Sub.cons rfl (Fr.Sub.cons rfl (Fr.Sub.nil _))
      · exact HSub.nil _
  · have h9 := of_decide_eq_false h9
    refine RunC.exit ?_
    refine Ends.then_exit ?_
    refine Ends.then_exit ?_
    refine Ends.block_exit ?_
    refine Ends.then ?_
    refine RunC.seq ?_
    refine RunC.region ?_
    refine RunL.still rfl rfl rfl (Still.assign rfl rfl) ?_
    refine RunL.nil ?_
    refine Ends.then ?_
    refine RunC.ret ?_
    refine Ends.leave (.inl rfl) (fun _ _ ok => results1 Tryz.results92 (Holds.tmp rfl) ok) (fun w2 hs => ?_)
    exact Ret.intro () trivial (congrArg Value.bool (decide_eq_false (fun hm => by obtain ⟨j, hj⟩ := List.getElem?_of_mem hm; exact hno j n (by have := (List.getElem?_eq_some_iff.1 hj).1; omega) hj rfl)).symm) (HSub.nil _) hs

theorem ref_Distinct (base : Option Addr) (A : Addr) (cap : Nat) (xs : List Int) (n : Int) (w : World) (hx : IntsAt w base A cap xs) (hl : xs.length ≤ 9223372036854775807) : Gives Tryz.prog 56 #[lisV base cap xs, iv n] w Nil (fun _ : Unit => True) (fun _ => .bool (distB xs n)) (fun _ => []) := by
  have hle := hx.le
  have hcp := hx.len
  refine fn_of_run (S := Nil) (args := [lisV base cap xs, iv n]) (n := 35) (L := []) Tryz.func56 rfl Tryz.ntmps56 (Nat.le_of_ble_eq_true rfl) (Sym.nil _ _) ?_
  change RunC _ _ _ [(0, _), (1, _)] _
  refine RunC.seq ?_
  refine RunC.region ?_
  refine RunL.still rfl rfl rfl (Still.assign rfl rfl) ?_
  refine RunL.nil ?_
  refine Ends.then ?_
  refine RunC.seq ?_
  refine RunC.seq ?_
  refine RunC.region ?_
  refine RunL.still rfl rfl rfl (Still.assign rfl rfl) ?_
  refine RunL.nil ?_
  refine Ends.then ?_
  refine RunC.block ?_
  refine RunC.loop2 (γ := Nat) (keep := [(0, _), (1, _)]) (hkeep := []) (fun i => i ≤ xs.length ∧ (xs.take i).Nodup ∧ ∀ x ∈ xs.take i, 0 ≤ x ∧ x < n) (fun i => xs.length - i) (fun i => [(5, iv i)]) (fun i => []) 0 ⟨by omega, by simp, by simp⟩ (Fr.Sub.cons rfl (Fr.Sub.nil _)) (Fr.Sub.cons rfl (Fr.Sub.cons rfl (Fr.Sub.nil _))) (HSub.nil _) ?_
  rintro i ⟨hi, hnd, hok⟩
  refine RunC.seq ?_
  refine RunC.seq ?_
  refine RunC.region ?_
  refine RunL.still rfl rfl rfl (Still.move rfl rfl) ?_
  refine RunL.still rfl rfl rfl (Still.move rfl rfl) ?_
  refine RunL.still rfl rfl rfl (Still.lenV rfl rfl Tryz.underlying36 (hx.shape)) ?_
  refine RunL.still rfl rfl rfl (Still.lss rfl rfl rfl) ?_
  refine RunL.nil ?_
  refine Ends.then ?_
  refine RunC.cond rfl (fun h9 => ?_) (fun h9 => ?_)
  · have h9 := of_decide_eq_true h9
    obtain ⟨y, hy⟩ := get_of_lt (l := xs) (i := i) (by omega)
    refine RunC.skip ?_
    refine Ends.then ?_
    refine RunC.seq ?_
    refine RunC.block ?_
    refine RunC.seq ?_
    refine RunC.draw 21 (.still 0 (.still 1 (.still 2 (.still 3 (.still 4 (.still 5 (.still 6 (.still 7 (.still 8 (.still 9 (.still 10 (.still 11 (.still 12 (.still 13 (.still 14 (.still 15 (.still 16 (.still 17 (.still 18 (.still 19 (.still 20 .done))))))))))))))))))))) (by kernel_rfl) (by kernel_rfl) ?_
    refine RunG.still rfl rfl rfl rfl (Still.move rfl rfl) ?_
    refine RunG.still rfl rfl rfl rfl (Still.move rfl rfl) ?_
    refine RunG.still rfl rfl rfl rfl (Still.indexV _ rfl rfl rfl Tryz.underlying36 Tryz.sizeOf3 (hx.shape) (rfl) (by omega)) ?_
    refine RunG.still rfl rfl rfl rfl (Still.load rfl rfl Tryz.isAgg3 (fun _ hs => cells_at (Cells.base0 (hx.cells _) hs) (ints_get hy))) ?_
    refine RunG.still rfl rfl rfl rfl (Still.lss rfl rfl rfl) ?_
    refine RunG.still rfl rfl rfl rfl (Still.move rfl rfl) ?_
    refine RunG.split (t := 17) rfl (fun h17 => ?_) (fun h17 => ?_)
    · have h17 := of_decide_eq_true h17
      refine RunG.off rfl rfl rfl rfl ?_
      refine RunG.off rfl rfl rfl rfl ?_
      refine RunG.off rfl rfl rfl rfl ?_
      refine RunG.off rfl rfl rfl rfl ?_
      refine RunG.off rfl rfl rfl rfl ?_
      refine RunG.off rfl rfl rfl rfl ?_
      refine RunG.still rfl rfl rfl rfl (Still.pickT rfl rfl rfl) ?_
      refine RunG.still rfl rfl rfl rfl (Still.move rfl rfl) ?_
      refine RunG.off rfl rfl rfl rfl ?_
      refine RunG.off rfl rfl rfl rfl ?_
      refine RunG.off rfl rfl rfl rfl ?_
      refine RunG.off rfl rfl rfl rfl ?_
      refine RunG.off rfl rfl rfl rfl ?_
      refine RunG.off rfl rfl rfl rfl ?_
      refine RunG.off rfl rfl rfl rfl ?_
      refine RunG.done ?_
      show RunL _ _ _ [_, _] _ _
      refine RunL.off rfl rfl rfl ?_
      refine RunL.still rfl rfl rfl (Still.pickT rfl rfl rfl) ?_
      refine RunL.nil ?_
      refine Ends.then ?_
      refine RunC.cond_true rfl ?_
      refine RunC.seq ?_
      refine RunC.region ?_
      refine RunL.still rfl rfl rfl (Still.assign rfl rfl) ?_
      refine RunL.nil ?_
      refine Ends.then ?_
      refine RunC.ret ?_
      refine Ends.block_ret ?_
      refine Ends.then_ret ?_
      refine Ends.then_ret ?_
      refine Ends.block_ret ?_
      refine Ends.then_ret ?_
      refine Ends.leave (.inl rfl) (fun _ _ ok => results1 Tryz.results56 (Holds.tmp rfl) ok) (fun w1 hs => ?_)
      exact Ret.intro () trivial (congrArg Value.bool (decide_eq_false (fun h => by have h1 := h.2 y (List.mem_of_getElem? hy); first | omega | exact not_nodup hy (by simpa using h34) h.1)).symm) (HSub.nil _) hs
    · have h17 := of_decide_eq_false h17
      refine RunG.still rfl rfl rfl rfl (Still.move rfl rfl) ?_
      refine RunG.still rfl rfl rfl rfl (Still.move rfl rfl) ?_
      refine RunG.still rfl rfl rfl rfl (Still.indexV _ rfl rfl rfl Tryz.underlying36 Tryz.sizeOf3 (hx.shape) (rfl) (by omega)) ?_
      refine RunG.still rfl rfl rfl rfl (Still.load rfl rfl Tryz.isAgg3 (fun _ hs => cells_at (Cells.base0 (hx.cells _) hs) (ints_get hy))) ?_
      refine RunG.still rfl rfl rfl rfl (Still.move rfl rfl) ?_
      refine RunG.still rfl rfl rfl rfl (Still.geq rfl rfl rfl) ?_
      refine RunG.still rfl rfl rfl rfl (Still.pickF rfl rfl rfl) ?_
      refine RunG.still rfl rfl rfl rfl (Still.move rfl rfl) ?_
      refine RunG.split (t := 25) rfl (fun h25 => ?_) (fun h25 => ?_)
      · have h25 := of_decide_eq_true h25
        refine RunG.off rfl rfl rfl rfl ?_
        refine RunG.off rfl rfl rfl rfl ?_
        refine RunG.off rfl rfl rfl rfl ?_
        refine RunG.off rfl rfl rfl rfl ?_
        refine RunG.off rfl rfl rfl rfl ?_
        refine RunG.off rfl rfl rfl rfl ?_
        refine RunG.off rfl rfl rfl rfl ?_
        refine RunG.done ?_
        show RunL _ _ _ [_, _] _ _
        refine RunL.off rfl rfl rfl ?_
        refine RunL.still rfl rfl rfl (Still.pickT rfl rfl rfl) ?_
        refine RunL.nil ?_
        refine Ends.then ?_
        refine RunC.cond_true rfl ?_
        refine RunC.seq ?_
        refine RunC.region ?_
        refine RunL.still rfl rfl rfl (Still.assign rfl rfl) ?_
        refine RunL.nil ?_
        refine Ends.then ?_
        refine RunC.ret ?_
        refine Ends.block_ret ?_
        refine Ends.then_ret ?_
        refine Ends.then_ret ?_
        refine Ends.block_ret ?_
        refine Ends.then_ret ?_
        refine Ends.leave (.inl rfl) (fun _ _ ok => results1 Tryz.results56 (Holds.tmp rfl) ok) (fun w2 hs => ?_)
        exact Ret.intro () trivial (congrArg Value.bool (decide_eq_false (fun h => by have h1 := h.2 y (List.mem_of_getElem? hy); first | omega | exact not_nodup hy (by simpa using h34) h.1)).symm) (HSub.nil _) hs
      · have h25 := of_decide_eq_false h25
        refine RunG.still rfl rfl rfl rfl (Still.move rfl rfl) ?_
        refine RunG.still rfl rfl rfl rfl (Still.move rfl rfl) ?_
        refine RunG.still rfl rfl rfl rfl (Still.sliceTo rfl rfl rfl Tryz.underlying36 Tryz.sizeOf3 (by omega)) ?_
        refine RunG.still rfl rfl rfl rfl (Still.move rfl rfl) ?_
        refine RunG.still rfl rfl rfl rfl (Still.move rfl rfl) ?_
        refine RunG.still rfl rfl rfl rfl (Still.indexV _ rfl rfl rfl Tryz.underlying36 Tryz.sizeOf3 (hx.shape) (rfl) (by omega)) ?_
        refine RunG.still rfl rfl rfl rfl (Still.load rfl rfl Tryz.isAgg3 (fun _ hs => cells_at (Cells.base0 (hx.cells _) hs) (ints_get hy))) ?_
        refine RunG.done ?_
        show RunL _ _ _ [_, _] _ _
        refine RunL.grows rfl rfl rfl (Grows.call (vs := #[_, _]) rfl rfl Tryz.call92 (fun w hs => ref_contains (.slice base i cap) (xs.take i) y w ((hx.sym hs).pre hi).1 ((hx.sym hs).pre hi).2 (by simp; omega))) (fun _ _ => ?_)
        refine RunL.still rfl rfl rfl (Still.pickF rfl rfl rfl) ?_
        refine RunL.nil ?_
        refine Ends.then ?_
        refine RunC.cond rfl (fun h34 => ?_) (fun h34 => ?_)
        · skip
          refine RunC.seq ?_
          refine RunC.region ?_
          refine RunL.still rfl rfl rfl (Still.assign rfl rfl) ?_
          refine RunL.nil ?_
          refine Ends.then ?_
          refine RunC.ret ?_
          refine Ends.block_ret ?_
          refine Ends.then_ret ?_
          refine Ends.then_ret ?_
          refine Ends.block_ret ?_
          refine Ends.then_ret ?_
          refine Ends.leave (.inl rfl) (fun _ _ ok => results1 Tryz.results56 (Holds.tmp rfl) ok) (fun w3 hs => ?_)
          exact Ret.intro () trivial (congrArg Value.bool (decide_eq_false (fun h => by have h1 := h.2 y (List.mem_of_getElem? hy); first | omega | exact not_nodup hy (by simpa using h34) h.1)).symm) (HSub.nil _) hs
        · skip
          refine RunC.skip ?_
          refine Ends.block ?_
          refine Ends.then ?_
          refine RunC.region ?_
          refine RunL.still rfl rfl rfl (Still.move rfl rfl) ?_
          refine RunL.still rfl rfl rfl (Still.add rfl rfl rfl (fits64 (by omega) (by omega))) ?_
          refine RunL.still rfl rfl rfl (Still.assign rfl rfl) ?_
          refine RunL.nil ?_
          refine Ends.again (i + 1) ?_ ?_ (Fr.Sub.app ?_ ?_) ?_
          · exact ⟨by omega, nodup_take_succ hy hnd (by simpa using h34), fun x hx2 => by rw [List.take_add_one, hy] at hx2; rcases List.mem_append.1 hx2 with hx2 | hx2; exact hok x hx2; rw [List.mem_singleton.1 hx2]; omega⟩
          · show _ < _; omega
          · exact Fr.Sub.cons rfl (Fr.Sub.nil _)
          · exact Fr.Sub.cons rfl (Fr.Sub.cons rfl (Fr.Sub.nil _))
          · exact HSub.nil _
  · have h9 := of_decide_eq_false h9
    refine RunC.exit ?_
    refine Ends.then_exit ?_
    refine Ends.then_exit ?_
    refine Ends.block_exit ?_
    refine Ends.then ?_
    refine RunC.seq ?_
    refine RunC.region ?_
    refine RunL.still rfl rfl rfl (Still.assign rfl rfl) ?_
    refine RunL.nil ?_
    refine Ends.then ?_
    refine RunC.ret ?_
    refine Ends.leave (.inl rfl) (fun _ _ ok => results1 Tryz.results56 (Holds.tmp rfl) ok) (fun w4 hs => ?_)
    exact Ret.intro () trivial (congrArg Value.bool (decide_eq_true (by rw [List.take_of_length_le (by omega)] at hnd hok; exact ⟨hnd, hok⟩)).symm) (HSub.nil _) hs

end Go.Proofs
/- Unions and sums of the reference, chapter 22. -/
namespace Go.Proofs
open Go Go.V
set_option maxRecDepth 20000
theorem ownD_uni (a b : Dia) (vb : Option Addr) (vc : Nat) : ownD (vb, vc) (uniD a b) = HL.own 62 5 (.slice vb (a.cross.length + b.cross.length) vc) (a.cross.length + b.cross.length) ((a.cross ++ (b.cross.take b.cross.length).map (shCr (2 * (a.cross.length : Int)))).flatMap encCr) := by
  rw [ownD, uniD_len, List.take_length]; rfl

/-- What a union asks of its parts. -/
structure UniIn (a b : Dia) : Prop where
  a200 : a.cross.length ≤ 200
  al : 0 ≤ a.loops ∧ a.loops ≤ 200
  b200 : b.cross.length ≤ 200
  bl : 0 ≤ b.loops ∧ b.loops ≤ 200
  arc : ∀ x ∈ b.cross, ∀ p, p < 4 → 0 ≤ x.arc p ∧ x.arc p ≤ 400
theorem ref_Union_nil (ba : Option Addr) (A : Addr) (ca : Nat) (a : Dia) (bb : Option Addr) (B : Addr) (cb : Nat) (b : Dia) (w : World) (_ : DiaAt w ba A a) (hdb : DiaAt w bb B b) (hI : UniIn a b) (hu : ¬ uniBad a b) (ha0 : a.cross.length = 0) : Gives Tryz.prog 55 #[diaV ba ca a, diaV bb cb b] w Nil (fun q : Option Addr × Nat => OKB q (uniD a b).cross.length) (fun q => .tuple #[diaV q.1 q.2 (uniD a b), iv 0]) (fun q => [ownD q (uniD a b)]) := by
  have a200 := hI.a200
  have al0 := hI.al.1
  have al1 := hI.al.2
  have b200 := hI.b200
  have bl0 := hI.bl.1
  have bl1 := hI.bl.2
  have hu1 : a.cross.length + b.cross.length ≤ 200 := Nat.le_of_not_lt fun k => hu (.inl k)
  have hu2 : a.loops + b.loops ≤ 200 := Int.not_lt.1 fun k => hu (.inr k)
  refine fn_of_run (S := Nil) (args := [diaV ba ca a, diaV bb cb b]) (n := 71) (L := []) Tryz.func55 rfl Tryz.ntmps55 (Nat.le_of_ble_eq_true rfl) (Sym.nil _ _) ?_
  change RunC _ _ _ [(0, _), (1, _)] _
  refine RunC.seq ?_
  refine RunC.region ?_
  refine RunL.grows rfl rfl rfl (Grows.box rfl rfl) (fun b2 _ => ?_)
  refine RunL.grows rfl rfl rfl (Grows.box rfl rfl) (fun b3 _ => ?_)
  refine RunL.grows rfl rfl rfl (Grows.alloc rfl Tryz.zeroValue24) (fun b4 _ => ?_)
  refine RunL.still rfl rfl rfl (Still.assign rfl rfl) ?_
  refine RunL.nil ?_
  refine Ends.then ?_
  refine RunC.seq ?_
  refine RunC.seq ?_
  refine RunC.meet1 (chg := [(25, .bool (decide (200 < (a.cross.length : Int) + b.cross.length ∨ 200 < a.loops + b.loops)))]) (keep := [(2, _), (3, _), (4, _)]) (hkeep := [_, _, _]) (Fr.Sub.cons rfl (Fr.Sub.cons rfl (Fr.Sub.cons rfl (Fr.Sub.nil _)))) (HSub.pick 0 rfl (HSub.pick 0 rfl (HSub.pick 0 rfl (HSub.nil _)))) ?_ ?_
  ·
    refine RunC.region ?_
    refine RunL.still rfl rfl rfl (Still.fieldAddrL (off := 0) (off' := 0) rfl rfl Tryz.underlying24 rfl Tryz.sizeOf22 rfl) ?_
    refine RunL.still rfl rfl rfl (Still.load rfl rfl Tryz.isAgg22 (fun _ hs => cell_nth (hs.at (i := 2) rfl) rfl)) ?_
    refine RunL.still rfl rfl rfl (Still.lenSlice rfl rfl Tryz.underlying22) ?_
    refine RunL.still rfl rfl rfl (Still.fieldAddrL (off := 0) (off' := 0) rfl rfl Tryz.underlying24 rfl Tryz.sizeOf22 rfl) ?_
    refine RunL.still rfl rfl rfl (Still.load rfl rfl Tryz.isAgg22 (fun _ hs => cell_nth (hs.at (i := 1) rfl) rfl)) ?_
    refine RunL.still rfl rfl rfl (Still.lenSlice rfl rfl Tryz.underlying22) ?_
    refine RunL.still rfl rfl rfl (Still.add rfl rfl rfl (fits64 (by omega) (by omega))) ?_
    refine RunL.still rfl rfl rfl (Still.gtr rfl rfl rfl) ?_
    refine RunL.still rfl rfl rfl (Still.move rfl rfl) ?_
    refine RunL.split (t := 18) rfl (fun h18 => ?_) (fun h18 => ?_)
    · have h18 := of_decide_eq_true h18
      refine RunL.off rfl rfl rfl ?_
      refine RunL.off rfl rfl rfl ?_
      refine RunL.off rfl rfl rfl ?_
      refine RunL.off rfl rfl rfl ?_
      refine RunL.off rfl rfl rfl ?_
      refine RunL.off rfl rfl rfl ?_
      refine RunL.still rfl rfl rfl (Still.pickT rfl rfl rfl) ?_
      refine RunL.nil ?_
      exact Ends.meet1 (Fr.Sub.cons (by first | exact congrArg (fun b => some (Value.bool b)) (decide_eq_true (by omega)).symm | exact congrArg (fun b => some (Value.bool b)) (decide_eq_false (by omega)).symm | exact congrArg (fun b => some (Value.bool b)) (decide_eq_decide.2 (by omega))) (Fr.Sub.nil _)) (Fr.Sub.cons rfl (Fr.Sub.cons rfl (Fr.Sub.cons rfl (Fr.Sub.nil _)))) (HSub.pick 0 rfl (HSub.pick 0 rfl (HSub.pick 0 rfl (HSub.nil _))))
    · have h18 := of_decide_eq_false h18
      refine RunL.still rfl rfl rfl (Still.fieldAddrL (off := 0) (off' := 1) rfl rfl Tryz.underlying24 rfl Tryz.sizeOf3 rfl) ?_
      refine RunL.still rfl rfl rfl (Still.load rfl rfl Tryz.isAgg3 (fun _ hs => cell_nth (hs.at (i := 2) rfl) rfl)) ?_
      refine RunL.still rfl rfl rfl (Still.fieldAddrL (off := 0) (off' := 1) rfl rfl Tryz.underlying24 rfl Tryz.sizeOf3 rfl) ?_
      refine RunL.still rfl rfl rfl (Still.load rfl rfl Tryz.isAgg3 (fun _ hs => cell_nth (hs.at (i := 1) rfl) rfl)) ?_
      refine RunL.still rfl rfl rfl (Still.add rfl rfl rfl (fits64 (by omega) (by omega))) ?_
      refine RunL.still rfl rfl rfl (Still.gtr rfl rfl rfl) ?_
      refine RunL.still rfl rfl rfl (Still.pickF rfl rfl rfl) ?_
      refine RunL.nil ?_
      exact Ends.meet1 (Fr.Sub.cons (by first | exact congrArg (fun b => some (Value.bool b)) (decide_eq_true (by omega)).symm | exact congrArg (fun b => some (Value.bool b)) (decide_eq_false (by omega)).symm | exact congrArg (fun b => some (Value.bool b)) (decide_eq_decide.2 (by omega))) (Fr.Sub.nil _)) (Fr.Sub.cons rfl (Fr.Sub.cons rfl (Fr.Sub.cons rfl (Fr.Sub.nil _)))) (HSub.pick 0 rfl (HSub.pick 0 rfl (HSub.pick 0 rfl (HSub.nil _))))
  ·
    refine Ends.then ?_
    refine RunC.cond rfl (fun h25 => ?_) (fun h25 => ?_)
    · skip
      exact absurd (of_decide_eq_true h25) (by omega)
    · skip
      refine RunC.skip ?_
      refine Ends.then ?_
      refine RunC.seq ?_
      refine RunC.meetG (γ := Nat × Value) (keep := [(2, _), (3, _), (4, _)]) (hkeep := [_, _, _]) (fun (b6, v) => Shape v a.cross.length) (fun (b6, v) => [(6, .pointer (some ⟨b6, 0, none⟩))]) (fun (b6, v) => [HL.obj b6 (.cells #[v, iv (a.loops + b.loops)] 24 (0, 0)), HL.own 62 5 v a.cross.length (a.cross.flatMap encCr)]) (Fr.Sub.cons rfl (Fr.Sub.cons rfl (Fr.Sub.cons rfl (Fr.Sub.nil _)))) (HSub.pick 0 rfl (HSub.pick 0 rfl (HSub.pick 0 rfl (HSub.nil _)))) ?_ ?_
      ·
        refine RunC.draw 11 (.still 1 (.still 2 (.still 4 (.still 5 (.still 6 (.still 7 (.still 8 (.two 0 (.still 3 (.still 9 (.one 10 .done))) 10 (.one 0 (.still 3 (.still 9 .done))))))))))) (by kernel_rfl) (by kernel_rfl) ?_
        refine RunG.still rfl rfl rfl rfl (Still.fieldAddrL (off := 0) (off' := 0) rfl rfl Tryz.underlying24 rfl Tryz.sizeOf22 rfl) ?_
        refine RunG.still rfl rfl rfl rfl (Still.load rfl rfl Tryz.isAgg22 (fun _ hs => cell_nth (hs.at (i := 2) rfl) rfl)) ?_
        refine RunG.still rfl rfl rfl rfl (Still.fieldAddrL (off := 0) (off' := 1) rfl rfl Tryz.underlying24 rfl Tryz.sizeOf3 rfl) ?_
        refine RunG.still rfl rfl rfl rfl (Still.load rfl rfl Tryz.isAgg3 (fun _ hs => cell_nth (hs.at (i := 2) rfl) rfl)) ?_
        refine RunG.still rfl rfl rfl rfl (Still.fieldAddrL (off := 0) (off' := 1) rfl rfl Tryz.underlying24 rfl Tryz.sizeOf3 rfl) ?_
        refine RunG.still rfl rfl rfl rfl (Still.load rfl rfl Tryz.isAgg3 (fun _ hs => cell_nth (hs.at (i := 1) rfl) rfl)) ?_
        refine RunG.still rfl rfl rfl rfl (Still.add rfl rfl rfl (fits64 (by omega) (by omega))) ?_
        refine RunG.two ?_ ?_
        ·
          refine RunG.grows rfl rfl rfl rfl (Grows.empty rfl Tryz.underlying22 Tryz.sizeOf62 Tryz.zeroValue62) (fun b27 _ => ?_)
          refine RunG.still rfl rfl rfl rfl (Still.appendNil rfl rfl rfl rfl ha0 (i := 0) rfl Tryz.underlying22 (by kernel_rfl : Tryz.prog.info? 62 = some Tryz.t62)) ?_
          refine RunG.still rfl rfl rfl rfl (Still.build_1_1 (fun x0_0 x1_0 => .agg #[x0_0, x1_0]) rfl rfl rfl (fun _ => by kernel_rfl)) ?_
          refine RunG.grows rfl rfl rfl rfl (Grows.alloc rfl Tryz.zeroValue24) (fun b6 _ => ?_)
          refine RunG.done ?_
          show RunL _ _ _ [_] _ _
          refine RunL.does0 rfl rfl (Does.store rfl rfl rfl (i := 0) rfl Tryz.sizeOf24 rfl (rfl) rfl) (fun _ _ => ?_)
          refine RunL.nil ?_
          exact Ends.meetG (b6, .slice (some ⟨b27, 0, none⟩) 0 0) (by show Shape _ _; rw [ha0]; exact ⟨_, _, rfl, fun h => by omega⟩) (Fr.Sub.cons rfl (Fr.Sub.nil _)) (Fr.Sub.cons rfl (Fr.Sub.cons rfl (Fr.Sub.cons rfl (Fr.Sub.nil _)))) (HSub.pick 0 rfl (HSub.pick 0 (by rw [ha0, List.length_eq_zero_iff.1 ha0]; rfl) (HSub.pick 0 rfl (HSub.pick 0 rfl (HSub.pick 0 rfl (HSub.nil _))))))
        ·
          refine RunG.grows rfl rfl rfl rfl (Grows.alloc rfl Tryz.zeroValue24) (fun b6 _ => ?_)
          refine RunG.grows rfl rfl rfl rfl (Grows.empty rfl Tryz.underlying22 Tryz.sizeOf62 Tryz.zeroValue62) (fun b27 _ => ?_)
          refine RunG.still rfl rfl rfl rfl (Still.appendNil rfl rfl rfl rfl ha0 (i := 0) rfl Tryz.underlying22 (by kernel_rfl : Tryz.prog.info? 62 = some Tryz.t62)) ?_
          refine RunG.still rfl rfl rfl rfl (Still.build_1_1 (fun x0_0 x1_0 => .agg #[x0_0, x1_0]) rfl rfl rfl (fun _ => by kernel_rfl)) ?_
          refine RunG.done ?_
          show RunL _ _ _ [_] _ _
          refine RunL.does0 rfl rfl (Does.store rfl rfl rfl (i := 1) rfl Tryz.sizeOf24 rfl (rfl) rfl) (fun _ _ => ?_)
          refine RunL.nil ?_
          exact Ends.meetG (b6, .slice (some ⟨b27, 0, none⟩) 0 0) (by show Shape _ _; rw [ha0]; exact ⟨_, _, rfl, fun h => by omega⟩) (Fr.Sub.cons rfl (Fr.Sub.nil _)) (Fr.Sub.cons rfl (Fr.Sub.cons rfl (Fr.Sub.cons rfl (Fr.Sub.nil _)))) (HSub.pick 1 rfl (HSub.pick 0 (by rw [ha0, List.length_eq_zero_iff.1 ha0]; rfl) (HSub.pick 0 rfl (HSub.pick 0 rfl (HSub.pick 0 rfl (HSub.nil _))))))
      · rintro ⟨b6, v⟩ hv0
        obtain ⟨vb0, vc0, hvv0, hvb0⟩ := hv0
        change v = _ at hvv0
        subst hvv0
        refine Ends.then ?_
        refine RunC.seq ?_
        refine RunC.seq ?_
        refine RunC.region ?_
        refine RunL.still rfl rfl rfl (Still.assign rfl rfl) ?_
        refine RunL.nil ?_
        refine Ends.then ?_
        refine RunC.block ?_
        refine RunC.loop2 (γ := Value × Nat) (keep := [(2, _), (3, _), (4, _), (6, _)]) (hkeep := [_, _, _]) (fun (v, c) => c ≤ b.cross.length) (fun (v, c) => b.cross.length - c) (fun (v, c) => [(7, iv c)]) (fun (v, c) => [HL.obj b6 (.cells #[v, iv (a.loops + b.loops)] 24 (0, 0)), HL.own 62 5 v (a.cross.length + c) ((a.cross ++ (b.cross.take c).map (shCr (2 * (a.cross.length : Int)))).flatMap encCr)]) (.slice vb0 a.cross.length vc0, 0) (by omega) (Fr.Sub.cons rfl (Fr.Sub.nil _)) (Fr.Sub.cons rfl (Fr.Sub.cons rfl (Fr.Sub.cons rfl (Fr.Sub.cons rfl (Fr.Sub.nil _))))) (HSub.pick 0 rfl (HSub.pick 0 (by rw [List.take_zero, List.map_nil, List.append_nil]; rfl) (HSub.pick 0 rfl (HSub.pick 0 rfl (HSub.pick 0 rfl (HSub.nil _)))))) ?_
        rintro ⟨v, c⟩ hcl
        refine RunC.seq ?_
        refine RunC.seq ?_
        refine RunC.region ?_
        refine RunL.still rfl rfl rfl (Still.move rfl rfl) ?_
        refine RunL.still rfl rfl rfl (Still.fieldAddrL (off := 0) (off' := 0) rfl rfl Tryz.underlying24 rfl Tryz.sizeOf22 rfl) ?_
        refine RunL.still rfl rfl rfl (Still.load rfl rfl Tryz.isAgg22 (fun _ hs => cell_nth (hs.at (i := 3) rfl) rfl)) ?_
        refine RunL.still rfl rfl rfl (Still.lenSlice rfl rfl Tryz.underlying22) ?_
        refine RunL.still rfl rfl rfl (Still.lss rfl rfl rfl) ?_
        refine RunL.nil ?_
        refine Ends.then ?_
        refine RunC.cond rfl (fun h41 => ?_) (fun h41 => ?_)
        · have h41 := of_decide_eq_true h41
          have hcl : c ≤ b.cross.length := hcl
          obtain ⟨x, hx⟩ := get_of_lt (l := b.cross) (i := c) (by omega)
          have hx0 : 0 ≤ x.a0 ∧ x.a0 ≤ 400 := hI.arc x (List.mem_of_getElem? hx) 0 (by omega)
          refine RunC.skip ?_
          refine Ends.then ?_
          refine RunC.seq ?_
          refine RunC.block ?_
          refine RunC.seq ?_
          refine RunC.region ?_
          refine RunL.still rfl rfl rfl (Still.fieldAddrL (off := 0) (off' := 0) rfl rfl Tryz.underlying24 rfl Tryz.sizeOf22 rfl) ?_
          refine RunL.still rfl rfl rfl (Still.load rfl rfl Tryz.isAgg22 (fun _ hs => cell_nth (hs.at (i := 3) rfl) rfl)) ?_
          refine RunL.still rfl rfl rfl (Still.move rfl rfl) ?_
          refine RunL.still rfl rfl rfl (Still.indexSliceN rfl rfl rfl Tryz.underlying22 Tryz.sizeOf62 (hdb.base (by omega)) (by omega)) ?_
          refine RunL.still rfl rfl rfl (Still.loads rfl rfl Tryz.isAgg62 Tryz.sizeOf62 (vs := encCr x) rfl (fun _ hs => Cells.base0 (hdb.cross hx) hs)) ?_
          refine RunL.grows rfl rfl rfl (Grows.alloc rfl Tryz.zeroValue62) (fun b8 _ => ?_)
          refine RunL.does0 rfl rfl (Does.store rfl rfl rfl (i := 0) rfl Tryz.sizeOf62 rfl (rfl) rfl) (fun _ _ => ?_)
          refine RunL.conv (fun _ hs => Sym.obj_own (k := 5) (n := 1) hs rfl (by omega)) ?_
          refine RunL.nil ?_
          refine Ends.then ?_
          refine RunC.seq ?_
          refine RunC.seq ?_
          refine RunC.region ?_
          refine RunL.still rfl rfl rfl (Still.assign rfl rfl) ?_
          refine RunL.nil ?_
          refine Ends.then ?_
          refine RunC.block ?_
          refine RunC.loop2 (γ := Nat) (keep := [(2, _), (3, _), (4, _), (6, _), (7, _), (8, _)]) (hkeep := [_, _, _, _, _]) (fun p => p ≤ 4) (fun p => 4 - p) (fun p => [(9, iv p)]) (fun p => [HL.own 62 5 (.slice (some ⟨b8, 0, none⟩) 1 1) 1 (encCr (shTo (2 * (a.cross.length : Int)) x p))]) 0 (by omega) (Fr.Sub.cons rfl (Fr.Sub.nil _)) (Fr.Sub.cons rfl (Fr.Sub.cons rfl (Fr.Sub.cons rfl (Fr.Sub.cons rfl (Fr.Sub.cons rfl (Fr.Sub.cons rfl (Fr.Sub.nil _))))))) (HSub.pick 0 rfl (HSub.pick 0 rfl (HSub.pick 0 rfl (HSub.pick 0 rfl (HSub.pick 0 rfl (HSub.pick 0 rfl (HSub.nil _))))))) ?_
          rintro p hp
          refine RunC.seq ?_
          refine RunC.seq ?_
          refine RunC.region ?_
          refine RunL.still rfl rfl rfl (Still.move rfl rfl) ?_
          refine RunL.still rfl rfl rfl (Still.lss rfl rfl rfl) ?_
          refine RunL.nil ?_
          refine Ends.then ?_
          refine RunC.cond rfl (fun h50 => ?_) (fun h50 => ?_)
          · have h50 := of_decide_eq_true h50
            have hp4 : p < 4 := by omega
            have hxp : 0 ≤ x.arc p ∧ x.arc p ≤ 400 := hI.arc x (List.mem_of_getElem? hx) p hp4
            refine RunC.skip ?_
            refine Ends.then ?_
            refine RunC.seq ?_
            refine RunC.block ?_
            refine RunC.draw 11 (.still 0 (.still 1 (.still 2 (.still 3 (.still 4 (.still 5 (.still 6 (.still 7 (.still 8 (.still 9 (.still 10 .done))))))))))) (by kernel_rfl) (by kernel_rfl) ?_
            refine RunG.still rfl rfl rfl rfl (Still.move rfl rfl) ?_
            refine RunG.still rfl rfl rfl rfl (Still.fieldAddrA (off := 0) rfl rfl Tryz.underlying62 rfl Tryz.sizeOf60 rfl) ?_
            refine RunG.still rfl rfl rfl rfl (Still.indexArrN rfl rfl rfl Tryz.underlying60 Tryz.sizeOf3 (by omega)) ?_
            refine RunG.still rfl rfl rfl rfl (Still.load rfl rfl Tryz.isAgg3 (fun w hs => own_at2 (hs.own (i := 0) rfl) ((show (encCr (shTo (2 * (a.cross.length : Int)) x p))[0 + p * 1]? = _ by rw [Nat.zero_add, Nat.mul_one]; exact shTo_get _ _ hp4)))) ?_
            refine RunG.still rfl rfl rfl rfl (Still.fieldAddrL (off := 0) (off' := 0) rfl rfl Tryz.underlying24 rfl Tryz.sizeOf22 rfl) ?_
            refine RunG.still rfl rfl rfl rfl (Still.load rfl rfl Tryz.isAgg22 (fun _ hs => cell_nth (hs.at (i := 5) rfl) rfl)) ?_
            refine RunG.still rfl rfl rfl rfl (Still.lenSlice rfl rfl Tryz.underlying22) ?_
            refine RunG.still rfl rfl rfl rfl (Still.mul rfl rfl rfl (fits64 (by omega) (by omega))) ?_
            refine RunG.still rfl rfl rfl rfl (Still.add rfl rfl rfl (fits64 (by omega) (by omega))) ?_
            refine RunG.still rfl rfl rfl rfl (Still.fieldAddrA (off := 0) rfl rfl Tryz.underlying62 rfl Tryz.sizeOf60 rfl) ?_
            refine RunG.still rfl rfl rfl rfl (Still.indexArrN rfl rfl rfl Tryz.underlying60 Tryz.sizeOf3 (by omega)) ?_
            refine RunG.done ?_
            show RunL _ _ _ [_] _ _
            refine RunL.does0 rfl rfl (Does.storeOwn1 (xs' := (encCr (shTo (2 * (a.cross.length : Int)) x (p + 1)))) rfl rfl (add_add _ _ _) rfl (i := 0) rfl Tryz.sizeOf3 rfl (by rw [encCr_len]; omega) (by rw [Nat.zero_add, Nat.mul_one]; exact shTo_set _ _ hp4)) (fun _ _ => ?_)
            refine RunL.nil ?_
            refine Ends.block ?_
            refine Ends.then ?_
            refine RunC.region ?_
            refine RunL.still rfl rfl rfl (Still.move rfl rfl) ?_
            refine RunL.still rfl rfl rfl (Still.add rfl rfl rfl (fits64 (by omega) (by omega))) ?_
            refine RunL.still rfl rfl rfl (Still.assign rfl rfl) ?_
            refine RunL.nil ?_
            refine Ends.again (p + 1) ?_ ?_ (Fr.Sub.app ?_ ?_) ?_
            · show _; omega
            · show _ < _; omega
            · exact Fr.Sub.cons rfl (Fr.Sub.nil _)
            · exact Fr.Sub.cons rfl (Fr.Sub.cons rfl (Fr.Sub.cons rfl (Fr.Sub.cons rfl (Fr.Sub.cons rfl (Fr.Sub.cons rfl (Fr.Sub.nil _))))))
            · exact HSub.pick 0 rfl (HSub.pick 0 rfl (HSub.pick 0 rfl (HSub.pick 0 rfl (HSub.pick 0 rfl (HSub.pick 0 rfl (HSub.nil _))))))
          · have h50 := of_decide_eq_false h50
            obtain rfl : p = 4 := by omega
            refine RunC.exit ?_
            refine Ends.then_exit ?_
            refine Ends.then_exit ?_
            refine Ends.block_exit ?_
            refine Ends.then ?_
            refine RunC.region ?_
            refine RunL.still rfl rfl rfl (Still.fieldAddrL (off := 0) (off' := 0) rfl rfl Tryz.underlying24 rfl Tryz.sizeOf22 rfl) ?_
            refine RunL.still rfl rfl rfl (Still.load rfl rfl Tryz.isAgg22 (fun _ hs => cell_nth (hs.at (i := 1) rfl) rfl)) ?_
            refine RunL.still rfl rfl rfl (Still.loads rfl rfl Tryz.isAgg62 Tryz.sizeOf62 (vs := encCr (shCr (2 * (a.cross.length : Int)) x)) rfl (fun _ hs => own_cells (i := 0) (hs.own (i := 0) rfl) (fun j u h => by rw [Nat.zero_add]; exact h))) ?_
            refine RunL.grows rfl rfl rfl (Grows.slice1 rfl rfl Tryz.underlying22 Tryz.sizeOf62 rfl Tryz.zeroValue62 (by decide)) (fun b67 _ => ?_)
            refine RunL.does rfl rfl rfl (Does.appendTo (n' := (a.cross.length + (c + 1))) (xs' := (((a.cross ++ (b.cross.take c).map (shCr (2 * (a.cross.length : Int)))) ++ [shCr (2 * (a.cross.length : Int)) x]).flatMap encCr)) (news := [_, _, _, _, _]) rfl rfl rfl rfl (i := 3) rfl Tryz.underlying22 (by kernel_rfl : (_ : Option _) = some (some (.agg #[.int .i64 0, .int .i64 0, .int .i64 0, .int .i64 0, .int .i64 0]), 5, 40)) rfl rfl (fun _ hs => cells_nth (hs.at (i := 0) rfl) ⟨rfl, ⟨rfl, ⟨rfl, ⟨rfl, ⟨rfl, trivial⟩⟩⟩⟩⟩) rfl rfl (by omega) (by omega) (rfl) (cr_snoc rfl)) (fun v68 hv68 => ?_)
            refine RunL.know (fun _ hs => own_shape (hs.own (i := 3) rfl)) (fun hsh2 => ?_)
            obtain ⟨vb2, vc2, hvv2, _⟩ := hsh2
            subst hvv2
            refine RunL.still rfl rfl rfl (Still.fieldAddrL (off := 0) (off' := 0) rfl rfl Tryz.underlying24 rfl Tryz.sizeOf22 rfl) ?_
            refine RunL.does0 rfl rfl (Does.store1 rfl rfl rfl (i := 2) rfl Tryz.sizeOf22 rfl (rfl)) (fun _ _ => ?_)
            refine RunL.nil ?_
            refine Ends.block ?_
            refine Ends.then ?_
            refine RunC.region ?_
            refine RunL.still rfl rfl rfl (Still.move rfl rfl) ?_
            refine RunL.still rfl rfl rfl (Still.add rfl rfl rfl (fits64 (by omega) (by omega))) ?_
            refine RunL.still rfl rfl rfl (Still.assign rfl rfl) ?_
            refine RunL.nil ?_
            refine Ends.again ((Value.slice vb2 (a.cross.length + (c + 1)) vc2), c + 1) ?_ ?_ (Fr.Sub.app ?_ ?_) ?_
            · show c + 1 ≤ _; omega
            · show _ - (c + 1) < _ - c; omega
            · exact Fr.Sub.cons rfl (Fr.Sub.nil _)
            · exact Fr.Sub.cons rfl (Fr.Sub.cons rfl (Fr.Sub.cons rfl (Fr.Sub.cons rfl (Fr.Sub.nil _))))
            · exact HSub.pick 2 rfl (HSub.pick 2 (by rw [List.take_add_one, hx]; simp only [Option.toList_some, List.map_append, List.map_cons, List.map_nil, List.append_assoc]; rfl) (HSub.pick 2 rfl (HSub.pick 2 rfl (HSub.pick 2 rfl (HSub.nil _)))))
        · have h41 := of_decide_eq_false h41
          have hcl : c ≤ b.cross.length := hcl
          obtain rfl : c = b.cross.length := by omega
          refine RunC.exit ?_
          refine Ends.then_exit ?_
          refine Ends.then_exit ?_
          refine Ends.block_exit ?_
          refine Ends.then ?_
          refine RunC.seq ?_
          refine RunC.region ?_
          refine RunL.know (fun _ hs => own_shape (hs.own (i := 1) rfl)) (fun hsh => ?_)
          obtain ⟨vb, vc, hvv, hvb⟩ := hsh
          subst hvv
          refine RunL.still rfl rfl rfl (Still.loads rfl rfl Tryz.isAgg24 Tryz.sizeOf24 (vs := [_, _]) rfl (fun _ hs => cells_nth (hs.at (i := 0) rfl) ⟨rfl, ⟨rfl, trivial⟩⟩)) ?_
          refine RunL.does0 rfl rfl (Does.store rfl rfl rfl (i := 2) rfl Tryz.sizeOf24 rfl (rfl) rfl) (fun _ _ => ?_)
          refine RunL.still rfl rfl rfl (Still.assign rfl rfl) ?_
          refine RunL.nil ?_
          refine Ends.then ?_
          refine RunC.ret ?_
          refine Ends.leave (.inl rfl) (fun _ _ ok => results2 Tryz.results55 (Holds.cell rfl (fun _ hs => load_cells (vs := [_, _]) Tryz.isAgg24 Tryz.sizeOf24 rfl (cells_nth (hs.at (i := 2) rfl) ⟨rfl, ⟨rfl, trivial⟩⟩))) (Holds.tmp rfl) ok) (fun w1 hs => ?_)
          exact Ret.intro (vb, vc) (by rw [OKB, uniD_len]; exact hvb) (by show _ = Value.tuple #[diaV vb vc (uniD a b), iv 0]; simp only [diaV, uniD_len]; rfl) (HSub.pick 1 (by rw [ownD_uni]; rfl) (HSub.nil _)) hs

theorem ref_Union_cons (A : Addr) (ca : Nat) (a : Dia) (bb : Option Addr) (B : Addr) (cb : Nat) (b : Dia) (w : World) (hda : DiaAt w (some A) A a) (hdb : DiaAt w bb B b) (hI : UniIn a b) (hu : ¬ uniBad a b) (ha0 : 0 < a.cross.length) : Gives Tryz.prog 55 #[diaV (some A) ca a, diaV bb cb b] w Nil (fun q : Option Addr × Nat => OKB q (uniD a b).cross.length) (fun q => .tuple #[diaV q.1 q.2 (uniD a b), iv 0]) (fun q => [ownD q (uniD a b)]) := by
  have a200 := hI.a200
  have al0 := hI.al.1
  have al1 := hI.al.2
  have b200 := hI.b200
  have bl0 := hI.bl.1
  have bl1 := hI.bl.2
  have hu1 : a.cross.length + b.cross.length ≤ 200 := Nat.le_of_not_lt fun k => hu (.inl k)
  have hu2 : a.loops + b.loops ≤ 200 := Int.not_lt.1 fun k => hu (.inr k)
  refine fn_of_run (S := Nil) (args := [diaV (some A) ca a, diaV bb cb b]) (n := 71) (L := []) Tryz.func55 rfl Tryz.ntmps55 (Nat.le_of_ble_eq_true rfl) (Sym.nil _ _) ?_
  change RunC _ _ _ [(0, _), (1, _)] _
  refine RunC.seq ?_
  refine RunC.region ?_
  refine RunL.grows rfl rfl rfl (Grows.box rfl rfl) (fun b2 _ => ?_)
  refine RunL.grows rfl rfl rfl (Grows.box rfl rfl) (fun b3 _ => ?_)
  refine RunL.grows rfl rfl rfl (Grows.alloc rfl Tryz.zeroValue24) (fun b4 _ => ?_)
  refine RunL.still rfl rfl rfl (Still.assign rfl rfl) ?_
  refine RunL.nil ?_
  refine Ends.then ?_
  refine RunC.seq ?_
  refine RunC.seq ?_
  refine RunC.meet1 (chg := [(25, .bool (decide (200 < (a.cross.length : Int) + b.cross.length ∨ 200 < a.loops + b.loops)))]) (keep := [(2, _), (3, _), (4, _)]) (hkeep := [_, _, _]) (Fr.Sub.cons rfl (Fr.Sub.cons rfl (Fr.Sub.cons rfl (Fr.Sub.nil _)))) (HSub.pick 0 rfl (HSub.pick 0 rfl (HSub.pick 0 rfl (HSub.nil _)))) ?_ ?_
  ·
    refine RunC.region ?_
    refine RunL.still rfl rfl rfl (Still.fieldAddrL (off := 0) (off' := 0) rfl rfl Tryz.underlying24 rfl Tryz.sizeOf22 rfl) ?_
    refine RunL.still rfl rfl rfl (Still.load rfl rfl Tryz.isAgg22 (fun _ hs => cell_nth (hs.at (i := 2) rfl) rfl)) ?_
    refine RunL.still rfl rfl rfl (Still.lenSlice rfl rfl Tryz.underlying22) ?_
    refine RunL.still rfl rfl rfl (Still.fieldAddrL (off := 0) (off' := 0) rfl rfl Tryz.underlying24 rfl Tryz.sizeOf22 rfl) ?_
    refine RunL.still rfl rfl rfl (Still.load rfl rfl Tryz.isAgg22 (fun _ hs => cell_nth (hs.at (i := 1) rfl) rfl)) ?_
    refine RunL.still rfl rfl rfl (Still.lenSlice rfl rfl Tryz.underlying22) ?_
    refine RunL.still rfl rfl rfl (Still.add rfl rfl rfl (fits64 (by omega) (by omega))) ?_
    refine RunL.still rfl rfl rfl (Still.gtr rfl rfl rfl) ?_
    refine RunL.still rfl rfl rfl (Still.move rfl rfl) ?_
    refine RunL.split (t := 18) rfl (fun h18 => ?_) (fun h18 => ?_)
    · have h18 := of_decide_eq_true h18
      refine RunL.off rfl rfl rfl ?_
      refine RunL.off rfl rfl rfl ?_
      refine RunL.off rfl rfl rfl ?_
      refine RunL.off rfl rfl rfl ?_
      refine RunL.off rfl rfl rfl ?_
      refine RunL.off rfl rfl rfl ?_
      refine RunL.still rfl rfl rfl (Still.pickT rfl rfl rfl) ?_
      refine RunL.nil ?_
      exact Ends.meet1 (Fr.Sub.cons (by first | exact congrArg (fun b => some (Value.bool b)) (decide_eq_true (by omega)).symm | exact congrArg (fun b => some (Value.bool b)) (decide_eq_false (by omega)).symm | exact congrArg (fun b => some (Value.bool b)) (decide_eq_decide.2 (by omega))) (Fr.Sub.nil _)) (Fr.Sub.cons rfl (Fr.Sub.cons rfl (Fr.Sub.cons rfl (Fr.Sub.nil _)))) (HSub.pick 0 rfl (HSub.pick 0 rfl (HSub.pick 0 rfl (HSub.nil _))))
    · have h18 := of_decide_eq_false h18
      refine RunL.still rfl rfl rfl (Still.fieldAddrL (off := 0) (off' := 1) rfl rfl Tryz.underlying24 rfl Tryz.sizeOf3 rfl) ?_
      refine RunL.still rfl rfl rfl (Still.load rfl rfl Tryz.isAgg3 (fun _ hs => cell_nth (hs.at (i := 2) rfl) rfl)) ?_
      refine RunL.still rfl rfl rfl (Still.fieldAddrL (off := 0) (off' := 1) rfl rfl Tryz.underlying24 rfl Tryz.sizeOf3 rfl) ?_
      refine RunL.still rfl rfl rfl (Still.load rfl rfl Tryz.isAgg3 (fun _ hs => cell_nth (hs.at (i := 1) rfl) rfl)) ?_
      refine RunL.still rfl rfl rfl (Still.add rfl rfl rfl (fits64 (by omega) (by omega))) ?_
      refine RunL.still rfl rfl rfl (Still.gtr rfl rfl rfl) ?_
      refine RunL.still rfl rfl rfl (Still.pickF rfl rfl rfl) ?_
      refine RunL.nil ?_
      exact Ends.meet1 (Fr.Sub.cons (by first | exact congrArg (fun b => some (Value.bool b)) (decide_eq_true (by omega)).symm | exact congrArg (fun b => some (Value.bool b)) (decide_eq_false (by omega)).symm | exact congrArg (fun b => some (Value.bool b)) (decide_eq_decide.2 (by omega))) (Fr.Sub.nil _)) (Fr.Sub.cons rfl (Fr.Sub.cons rfl (Fr.Sub.cons rfl (Fr.Sub.nil _)))) (HSub.pick 0 rfl (HSub.pick 0 rfl (HSub.pick 0 rfl (HSub.nil _))))
  ·
    refine Ends.then ?_
    refine RunC.cond rfl (fun h25 => ?_) (fun h25 => ?_)
    · skip
      exact absurd (of_decide_eq_true h25) (by omega)
    · skip
      refine RunC.skip ?_
      refine Ends.then ?_
      refine RunC.seq ?_
      refine RunC.meetG (γ := Nat × Value) (keep := [(2, _), (3, _), (4, _)]) (hkeep := [_, _, _]) (fun (b6, v) => Shape v a.cross.length) (fun (b6, v) => [(6, .pointer (some ⟨b6, 0, none⟩))]) (fun (b6, v) => [HL.obj b6 (.cells #[v, iv (a.loops + b.loops)] 24 (0, 0)), HL.own 62 5 v a.cross.length (a.cross.flatMap encCr)]) (Fr.Sub.cons rfl (Fr.Sub.cons rfl (Fr.Sub.cons rfl (Fr.Sub.nil _)))) (HSub.pick 0 rfl (HSub.pick 0 rfl (HSub.pick 0 rfl (HSub.nil _)))) ?_ ?_
      ·
        refine RunC.draw 11 (.still 1 (.still 2 (.still 4 (.still 5 (.still 6 (.still 7 (.still 8 (.two 0 (.two 3 (.still 9 (.one 10 .done)) 10 (.one 3 (.still 9 .done))) 10 (.one 0 (.one 3 (.still 9 .done))))))))))) (by kernel_rfl) (by kernel_rfl) ?_
        refine RunG.still rfl rfl rfl rfl (Still.fieldAddrL (off := 0) (off' := 0) rfl rfl Tryz.underlying24 rfl Tryz.sizeOf22 rfl) ?_
        refine RunG.still rfl rfl rfl rfl (Still.load rfl rfl Tryz.isAgg22 (fun _ hs => cell_nth (hs.at (i := 2) rfl) rfl)) ?_
        refine RunG.still rfl rfl rfl rfl (Still.fieldAddrL (off := 0) (off' := 1) rfl rfl Tryz.underlying24 rfl Tryz.sizeOf3 rfl) ?_
        refine RunG.still rfl rfl rfl rfl (Still.load rfl rfl Tryz.isAgg3 (fun _ hs => cell_nth (hs.at (i := 2) rfl) rfl)) ?_
        refine RunG.still rfl rfl rfl rfl (Still.fieldAddrL (off := 0) (off' := 1) rfl rfl Tryz.underlying24 rfl Tryz.sizeOf3 rfl) ?_
        refine RunG.still rfl rfl rfl rfl (Still.load rfl rfl Tryz.isAgg3 (fun _ hs => cell_nth (hs.at (i := 1) rfl) rfl)) ?_
        refine RunG.still rfl rfl rfl rfl (Still.add rfl rfl rfl (fits64 (by omega) (by omega))) ?_
        refine RunG.two ?_ ?_
        ·
          refine RunG.grows rfl rfl rfl rfl (Grows.empty rfl Tryz.underlying22 Tryz.sizeOf62 Tryz.zeroValue62) (fun b27 _ => ?_)
          refine RunG.two ?_ ?_
          ·
            refine RunG.grows rfl rfl rfl rfl (Grows.appendNew (news := (a.cross.flatMap encCr)) rfl rfl rfl rfl ha0 Tryz.underlying22 (by kernel_rfl : (_ : Option _) = some (some (.agg #[.int .i64 0, .int .i64 0, .int .i64 0, .int .i64 0, .int .i64 0]), 5, 40)) rfl (fun _ hs => Cells.base0 hda.cells hs) (flat_len encCr_len _) (by omega) (by omega)) (fun v30 hv30 => ?_)
            obtain ⟨vb3, vc3, hvv3, hvb3⟩ := hv30
            subst hvv3
            refine RunG.still rfl rfl rfl rfl (Still.build_1_1 (fun x0_0 x1_0 => .agg #[x0_0, x1_0]) rfl rfl rfl (fun _ => by kernel_rfl)) ?_
            refine RunG.grows rfl rfl rfl rfl (Grows.alloc rfl Tryz.zeroValue24) (fun b6 _ => ?_)
            refine RunG.done ?_
            show RunL _ _ _ [_] _ _
            refine RunL.does0 rfl rfl (Does.store rfl rfl rfl (i := 0) rfl Tryz.sizeOf24 rfl (rfl) rfl) (fun _ _ => ?_)
            refine RunL.nil ?_
            exact Ends.meetG (b6, .slice vb3 a.cross.length vc3) ⟨vb3, vc3, rfl, hvb3⟩ (Fr.Sub.cons rfl (Fr.Sub.nil _)) (Fr.Sub.cons rfl (Fr.Sub.cons rfl (Fr.Sub.cons rfl (Fr.Sub.nil _)))) (HSub.pick 0 rfl (HSub.pick 0 rfl (HSub.pick 1 rfl (HSub.pick 1 rfl (HSub.pick 1 rfl (HSub.nil _))))))
          ·
            refine RunG.grows rfl rfl rfl rfl (Grows.alloc rfl Tryz.zeroValue24) (fun b6 _ => ?_)
            refine RunG.grows rfl rfl rfl rfl (Grows.appendNew (news := (a.cross.flatMap encCr)) rfl rfl rfl rfl ha0 Tryz.underlying22 (by kernel_rfl : (_ : Option _) = some (some (.agg #[.int .i64 0, .int .i64 0, .int .i64 0, .int .i64 0, .int .i64 0]), 5, 40)) rfl (fun _ hs => Cells.base0 hda.cells hs) (flat_len encCr_len _) (by omega) (by omega)) (fun v30 hv30 => ?_)
            obtain ⟨vb3, vc3, hvv3, hvb3⟩ := hv30
            subst hvv3
            refine RunG.still rfl rfl rfl rfl (Still.build_1_1 (fun x0_0 x1_0 => .agg #[x0_0, x1_0]) rfl rfl rfl (fun _ => by kernel_rfl)) ?_
            refine RunG.done ?_
            show RunL _ _ _ [_] _ _
            refine RunL.does0 rfl rfl (Does.store rfl rfl rfl (i := 1) rfl Tryz.sizeOf24 rfl (rfl) rfl) (fun _ _ => ?_)
            refine RunL.nil ?_
            exact Ends.meetG (b6, .slice vb3 a.cross.length vc3) ⟨vb3, vc3, rfl, hvb3⟩ (Fr.Sub.cons rfl (Fr.Sub.nil _)) (Fr.Sub.cons rfl (Fr.Sub.cons rfl (Fr.Sub.cons rfl (Fr.Sub.nil _)))) (HSub.pick 1 rfl (HSub.pick 0 rfl (HSub.pick 1 rfl (HSub.pick 1 rfl (HSub.pick 1 rfl (HSub.nil _))))))
        ·
          refine RunG.grows rfl rfl rfl rfl (Grows.alloc rfl Tryz.zeroValue24) (fun b6 _ => ?_)
          refine RunG.grows rfl rfl rfl rfl (Grows.empty rfl Tryz.underlying22 Tryz.sizeOf62 Tryz.zeroValue62) (fun b27 _ => ?_)
          refine RunG.grows rfl rfl rfl rfl (Grows.appendNew (news := (a.cross.flatMap encCr)) rfl rfl rfl rfl ha0 Tryz.underlying22 (by kernel_rfl : (_ : Option _) = some (some (.agg #[.int .i64 0, .int .i64 0, .int .i64 0, .int .i64 0, .int .i64 0]), 5, 40)) rfl (fun _ hs => Cells.base0 hda.cells hs) (flat_len encCr_len _) (by omega) (by omega)) (fun v30 hv30 => ?_)
          obtain ⟨vb3, vc3, hvv3, hvb3⟩ := hv30
          subst hvv3
          refine RunG.still rfl rfl rfl rfl (Still.build_1_1 (fun x0_0 x1_0 => .agg #[x0_0, x1_0]) rfl rfl rfl (fun _ => by kernel_rfl)) ?_
          refine RunG.done ?_
          show RunL _ _ _ [_] _ _
          refine RunL.does0 rfl rfl (Does.store rfl rfl rfl (i := 2) rfl Tryz.sizeOf24 rfl (rfl) rfl) (fun _ _ => ?_)
          refine RunL.nil ?_
          exact Ends.meetG (b6, .slice vb3 a.cross.length vc3) ⟨vb3, vc3, rfl, hvb3⟩ (Fr.Sub.cons rfl (Fr.Sub.nil _)) (Fr.Sub.cons rfl (Fr.Sub.cons rfl (Fr.Sub.cons rfl (Fr.Sub.nil _)))) (HSub.pick 2 rfl (HSub.pick 0 rfl (HSub.pick 1 rfl (HSub.pick 1 rfl (HSub.pick 1 rfl (HSub.nil _))))))
      · rintro ⟨b6, v⟩ hv0
        obtain ⟨vb0, vc0, hvv0, hvb0⟩ := hv0
        change v = _ at hvv0
        subst hvv0
        refine Ends.then ?_
        refine RunC.seq ?_
        refine RunC.seq ?_
        refine RunC.region ?_
        refine RunL.still rfl rfl rfl (Still.assign rfl rfl) ?_
        refine RunL.nil ?_
        refine Ends.then ?_
        refine RunC.block ?_
        refine RunC.loop2 (γ := Value × Nat) (keep := [(2, _), (3, _), (4, _), (6, _)]) (hkeep := [_, _, _]) (fun (v, c) => c ≤ b.cross.length) (fun (v, c) => b.cross.length - c) (fun (v, c) => [(7, iv c)]) (fun (v, c) => [HL.obj b6 (.cells #[v, iv (a.loops + b.loops)] 24 (0, 0)), HL.own 62 5 v (a.cross.length + c) ((a.cross ++ (b.cross.take c).map (shCr (2 * (a.cross.length : Int)))).flatMap encCr)]) (.slice vb0 a.cross.length vc0, 0) (by omega) (Fr.Sub.cons rfl (Fr.Sub.nil _)) (Fr.Sub.cons rfl (Fr.Sub.cons rfl (Fr.Sub.cons rfl (Fr.Sub.cons rfl (Fr.Sub.nil _))))) (HSub.pick 0 rfl (HSub.pick 0 (by rw [List.take_zero, List.map_nil, List.append_nil]; rfl) (HSub.pick 0 rfl (HSub.pick 0 rfl (HSub.pick 0 rfl (HSub.nil _)))))) ?_
        rintro ⟨v, c⟩ hcl
        refine RunC.seq ?_
        refine RunC.seq ?_
        refine RunC.region ?_
        refine RunL.still rfl rfl rfl (Still.move rfl rfl) ?_
        refine RunL.still rfl rfl rfl (Still.fieldAddrL (off := 0) (off' := 0) rfl rfl Tryz.underlying24 rfl Tryz.sizeOf22 rfl) ?_
        refine RunL.still rfl rfl rfl (Still.load rfl rfl Tryz.isAgg22 (fun _ hs => cell_nth (hs.at (i := 3) rfl) rfl)) ?_
        refine RunL.still rfl rfl rfl (Still.lenSlice rfl rfl Tryz.underlying22) ?_
        refine RunL.still rfl rfl rfl (Still.lss rfl rfl rfl) ?_
        refine RunL.nil ?_
        refine Ends.then ?_
        refine RunC.cond rfl (fun h41 => ?_) (fun h41 => ?_)
        · have h41 := of_decide_eq_true h41
          have hcl : c ≤ b.cross.length := hcl
          obtain ⟨x, hx⟩ := get_of_lt (l := b.cross) (i := c) (by omega)
          have hx0 : 0 ≤ x.a0 ∧ x.a0 ≤ 400 := hI.arc x (List.mem_of_getElem? hx) 0 (by omega)
          refine RunC.skip ?_
          refine Ends.then ?_
          refine RunC.seq ?_
          refine RunC.block ?_
          refine RunC.seq ?_
          refine RunC.region ?_
          refine RunL.still rfl rfl rfl (Still.fieldAddrL (off := 0) (off' := 0) rfl rfl Tryz.underlying24 rfl Tryz.sizeOf22 rfl) ?_
          refine RunL.still rfl rfl rfl (Still.load rfl rfl Tryz.isAgg22 (fun _ hs => cell_nth (hs.at (i := 3) rfl) rfl)) ?_
          refine RunL.still rfl rfl rfl (Still.move rfl rfl) ?_
          refine RunL.still rfl rfl rfl (Still.indexSliceN rfl rfl rfl Tryz.underlying22 Tryz.sizeOf62 (hdb.base (by omega)) (by omega)) ?_
          refine RunL.still rfl rfl rfl (Still.loads rfl rfl Tryz.isAgg62 Tryz.sizeOf62 (vs := encCr x) rfl (fun _ hs => Cells.base0 (hdb.cross hx) hs)) ?_
          refine RunL.grows rfl rfl rfl (Grows.alloc rfl Tryz.zeroValue62) (fun b8 _ => ?_)
          refine RunL.does0 rfl rfl (Does.store rfl rfl rfl (i := 0) rfl Tryz.sizeOf62 rfl (rfl) rfl) (fun _ _ => ?_)
          refine RunL.conv (fun _ hs => Sym.obj_own (k := 5) (n := 1) hs rfl (by omega)) ?_
          refine RunL.nil ?_
          refine Ends.then ?_
          refine RunC.seq ?_
          refine RunC.seq ?_
          refine RunC.region ?_
          refine RunL.still rfl rfl rfl (Still.assign rfl rfl) ?_
          refine RunL.nil ?_
          refine Ends.then ?_
          refine RunC.block ?_
          refine RunC.loop2 (γ := Nat) (keep := [(2, _), (3, _), (4, _), (6, _), (7, _), (8, _)]) (hkeep := [_, _, _, _, _]) (fun p => p ≤ 4) (fun p => 4 - p) (fun p => [(9, iv p)]) (fun p => [HL.own 62 5 (.slice (some ⟨b8, 0, none⟩) 1 1) 1 (encCr (shTo (2 * (a.cross.length : Int)) x p))]) 0 (by omega) (Fr.Sub.cons rfl (Fr.Sub.nil _)) (Fr.Sub.cons rfl (Fr.Sub.cons rfl (Fr.Sub.cons rfl (Fr.Sub.cons rfl (Fr.Sub.cons rfl (Fr.Sub.cons rfl (Fr.Sub.nil _))))))) (HSub.pick 0 rfl (HSub.pick 0 rfl (HSub.pick 0 rfl (HSub.pick 0 rfl (HSub.pick 0 rfl (HSub.pick 0 rfl (HSub.nil _))))))) ?_
          rintro p hp
          refine RunC.seq ?_
          refine RunC.seq ?_
          refine RunC.region ?_
          refine RunL.still rfl rfl rfl (Still.move rfl rfl) ?_
          refine RunL.still rfl rfl rfl (Still.lss rfl rfl rfl) ?_
          refine RunL.nil ?_
          refine Ends.then ?_
          refine RunC.cond rfl (fun h50 => ?_) (fun h50 => ?_)
          · have h50 := of_decide_eq_true h50
            have hp4 : p < 4 := by omega
            have hxp : 0 ≤ x.arc p ∧ x.arc p ≤ 400 := hI.arc x (List.mem_of_getElem? hx) p hp4
            refine RunC.skip ?_
            refine Ends.then ?_
            refine RunC.seq ?_
            refine RunC.block ?_
            refine RunC.draw 11 (.still 0 (.still 1 (.still 2 (.still 3 (.still 4 (.still 5 (.still 6 (.still 7 (.still 8 (.still 9 (.still 10 .done))))))))))) (by kernel_rfl) (by kernel_rfl) ?_
            refine RunG.still rfl rfl rfl rfl (Still.move rfl rfl) ?_
            refine RunG.still rfl rfl rfl rfl (Still.fieldAddrA (off := 0) rfl rfl Tryz.underlying62 rfl Tryz.sizeOf60 rfl) ?_
            refine RunG.still rfl rfl rfl rfl (Still.indexArrN rfl rfl rfl Tryz.underlying60 Tryz.sizeOf3 (by omega)) ?_
            refine RunG.still rfl rfl rfl rfl (Still.load rfl rfl Tryz.isAgg3 (fun w hs => own_at2 (hs.own (i := 0) rfl) ((show (encCr (shTo (2 * (a.cross.length : Int)) x p))[0 + p * 1]? = _ by rw [Nat.zero_add, Nat.mul_one]; exact shTo_get _ _ hp4)))) ?_
            refine RunG.still rfl rfl rfl rfl (Still.fieldAddrL (off := 0) (off' := 0) rfl rfl Tryz.underlying24 rfl Tryz.sizeOf22 rfl) ?_
            refine RunG.still rfl rfl rfl rfl (Still.load rfl rfl Tryz.isAgg22 (fun _ hs => cell_nth (hs.at (i := 5) rfl) rfl)) ?_
            refine RunG.still rfl rfl rfl rfl (Still.lenSlice rfl rfl Tryz.underlying22) ?_
            refine RunG.still rfl rfl rfl rfl (Still.mul rfl rfl rfl (fits64 (by omega) (by omega))) ?_
            refine RunG.still rfl rfl rfl rfl (Still.add rfl rfl rfl (fits64 (by omega) (by omega))) ?_
            refine RunG.still rfl rfl rfl rfl (Still.fieldAddrA (off := 0) rfl rfl Tryz.underlying62 rfl Tryz.sizeOf60 rfl) ?_
            refine RunG.still rfl rfl rfl rfl (Still.indexArrN rfl rfl rfl Tryz.underlying60 Tryz.sizeOf3 (by omega)) ?_
            refine RunG.done ?_
            show RunL _ _ _ [_] _ _
            refine RunL.does0 rfl rfl (Does.storeOwn1 (xs' := (encCr (shTo (2 * (a.cross.length : Int)) x (p + 1)))) rfl rfl (add_add _ _ _) rfl (i := 0) rfl Tryz.sizeOf3 rfl (by rw [encCr_len]; omega) (by rw [Nat.zero_add, Nat.mul_one]; exact shTo_set _ _ hp4)) (fun _ _ => ?_)
            refine RunL.nil ?_
            refine Ends.block ?_
            refine Ends.then ?_
            refine RunC.region ?_
            refine RunL.still rfl rfl rfl (Still.move rfl rfl) ?_
            refine RunL.still rfl rfl rfl (Still.add rfl rfl rfl (fits64 (by omega) (by omega))) ?_
            refine RunL.still rfl rfl rfl (Still.assign rfl rfl) ?_
            refine RunL.nil ?_
            refine Ends.again (p + 1) ?_ ?_ (Fr.Sub.app ?_ ?_) ?_
            · show _; omega
            · show _ < _; omega
            · exact Fr.Sub.cons rfl (Fr.Sub.nil _)
            · exact Fr.Sub.cons rfl (Fr.Sub.cons rfl (Fr.Sub.cons rfl (Fr.Sub.cons rfl (Fr.Sub.cons rfl (Fr.Sub.cons rfl (Fr.Sub.nil _))))))
            · exact HSub.pick 0 rfl (HSub.pick 0 rfl (HSub.pick 0 rfl (HSub.pick 0 rfl (HSub.pick 0 rfl (HSub.pick 0 rfl (HSub.nil _))))))
          · have h50 := of_decide_eq_false h50
            obtain rfl : p = 4 := by omega
            refine RunC.exit ?_
            refine Ends.then_exit ?_
            refine Ends.then_exit ?_
            refine Ends.block_exit ?_
            refine Ends.then ?_
            refine RunC.region ?_
            refine RunL.still rfl rfl rfl (Still.fieldAddrL (off := 0) (off' := 0) rfl rfl Tryz.underlying24 rfl Tryz.sizeOf22 rfl) ?_
            refine RunL.still rfl rfl rfl (Still.load rfl rfl Tryz.isAgg22 (fun _ hs => cell_nth (hs.at (i := 1) rfl) rfl)) ?_
            refine RunL.still rfl rfl rfl (Still.loads rfl rfl Tryz.isAgg62 Tryz.sizeOf62 (vs := encCr (shCr (2 * (a.cross.length : Int)) x)) rfl (fun _ hs => own_cells (i := 0) (hs.own (i := 0) rfl) (fun j u h => by rw [Nat.zero_add]; exact h))) ?_
            refine RunL.grows rfl rfl rfl (Grows.slice1 rfl rfl Tryz.underlying22 Tryz.sizeOf62 rfl Tryz.zeroValue62 (by decide)) (fun b67 _ => ?_)
            refine RunL.does rfl rfl rfl (Does.appendTo (n' := (a.cross.length + (c + 1))) (xs' := (((a.cross ++ (b.cross.take c).map (shCr (2 * (a.cross.length : Int)))) ++ [shCr (2 * (a.cross.length : Int)) x]).flatMap encCr)) (news := [_, _, _, _, _]) rfl rfl rfl rfl (i := 3) rfl Tryz.underlying22 (by kernel_rfl : (_ : Option _) = some (some (.agg #[.int .i64 0, .int .i64 0, .int .i64 0, .int .i64 0, .int .i64 0]), 5, 40)) rfl rfl (fun _ hs => cells_nth (hs.at (i := 0) rfl) ⟨rfl, ⟨rfl, ⟨rfl, ⟨rfl, ⟨rfl, trivial⟩⟩⟩⟩⟩) rfl rfl (by omega) (by omega) (rfl) (cr_snoc rfl)) (fun v68 hv68 => ?_)
            refine RunL.know (fun _ hs => own_shape (hs.own (i := 3) rfl)) (fun hsh2 => ?_)
            obtain ⟨vb2, vc2, hvv2, _⟩ := hsh2
            subst hvv2
            refine RunL.still rfl rfl rfl (Still.fieldAddrL (off := 0) (off' := 0) rfl rfl Tryz.underlying24 rfl Tryz.sizeOf22 rfl) ?_
            refine RunL.does0 rfl rfl (Does.store1 rfl rfl rfl (i := 2) rfl Tryz.sizeOf22 rfl (rfl)) (fun _ _ => ?_)
            refine RunL.nil ?_
            refine Ends.block ?_
            refine Ends.then ?_
            refine RunC.region ?_
            refine RunL.still rfl rfl rfl (Still.move rfl rfl) ?_
            refine RunL.still rfl rfl rfl (Still.add rfl rfl rfl (fits64 (by omega) (by omega))) ?_
            refine RunL.still rfl rfl rfl (Still.assign rfl rfl) ?_
            refine RunL.nil ?_
            refine Ends.again ((Value.slice vb2 (a.cross.length + (c + 1)) vc2), c + 1) ?_ ?_ (Fr.Sub.app ?_ ?_) ?_
            · show c + 1 ≤ _; omega
            · show _ - (c + 1) < _ - c; omega
            · exact Fr.Sub.cons rfl (Fr.Sub.nil _)
            · exact Fr.Sub.cons rfl (Fr.Sub.cons rfl (Fr.Sub.cons rfl (Fr.Sub.cons rfl (Fr.Sub.nil _))))
            · exact HSub.pick 2 rfl (HSub.pick 2 (by rw [List.take_add_one, hx]; simp only [Option.toList_some, List.map_append, List.map_cons, List.map_nil, List.append_assoc]; rfl) (HSub.pick 2 rfl (HSub.pick 2 rfl (HSub.pick 2 rfl (HSub.nil _)))))
        · have h41 := of_decide_eq_false h41
          have hcl : c ≤ b.cross.length := hcl
          obtain rfl : c = b.cross.length := by omega
          refine RunC.exit ?_
          refine Ends.then_exit ?_
          refine Ends.then_exit ?_
          refine Ends.block_exit ?_
          refine Ends.then ?_
          refine RunC.seq ?_
          refine RunC.region ?_
          refine RunL.know (fun _ hs => own_shape (hs.own (i := 1) rfl)) (fun hsh => ?_)
          obtain ⟨vb, vc, hvv, hvb⟩ := hsh
          subst hvv
          refine RunL.still rfl rfl rfl (Still.loads rfl rfl Tryz.isAgg24 Tryz.sizeOf24 (vs := [_, _]) rfl (fun _ hs => cells_nth (hs.at (i := 0) rfl) ⟨rfl, ⟨rfl, trivial⟩⟩)) ?_
          refine RunL.does0 rfl rfl (Does.store rfl rfl rfl (i := 2) rfl Tryz.sizeOf24 rfl (rfl) rfl) (fun _ _ => ?_)
          refine RunL.still rfl rfl rfl (Still.assign rfl rfl) ?_
          refine RunL.nil ?_
          refine Ends.then ?_
          refine RunC.ret ?_
          refine Ends.leave (.inl rfl) (fun _ _ ok => results2 Tryz.results55 (Holds.cell rfl (fun _ hs => load_cells (vs := [_, _]) Tryz.isAgg24 Tryz.sizeOf24 rfl (cells_nth (hs.at (i := 2) rfl) ⟨rfl, ⟨rfl, trivial⟩⟩))) (Holds.tmp rfl) ok) (fun w1 hs => ?_)
          exact Ret.intro (vb, vc) (by rw [OKB, uniD_len]; exact hvb) (by show _ = Value.tuple #[diaV vb vc (uniD a b), iv 0]; simp only [diaV, uniD_len]; rfl) (HSub.pick 1 (by rw [ownD_uni]; rfl) (HSub.nil _)) hs

theorem ref_UnionW (ba : Option Addr) (A : Addr) (ca : Nat) (a : Dia) (bb : Option Addr) (B : Addr) (cb : Nat) (b : Dia) (w : World) (hda : DiaAt w ba A a) (hdb : DiaAt w bb B b) (hI : UniIn a b) (hu : ¬ uniBad a b) : Gives Tryz.prog 55 #[diaV ba ca a, diaV bb cb b] w Nil (fun q : Option Addr × Nat => OKB q (uniD a b).cross.length) (fun q => .tuple #[diaV q.1 q.2 (uniD a b), iv 0]) (fun q => [ownD q (uniD a b)]) := by
  rcases Nat.eq_zero_or_pos a.cross.length with h0 | h0
  · exact ref_Union_nil ba A ca a bb B cb b w hda hdb hI hu h0
  · have hb := hda.base h0
    subst hb
    exact ref_Union_cons A ca a bb B cb b w hda hdb hI hu h0

end Go.Proofs
/- Sums of the reference, chapter 22. -/
namespace Go.Proofs
open Go Go.V
set_option maxRecDepth 20000
theorem ref_End_in (base : Option Addr) (A : Addr) (cap : Nat) (d : Dia) (k : Int) (w : World) (hd : DiaAt w base A d) (hS : SoundP d) (h0 : 0 ≤ k) (h1 : k < 2 * d.cross.length) : Gives Tryz.prog 125 #[diaV base cap d, iv k] w Nil (fun _ : Unit => True) (fun _ => .agg #[iv ((inQ d k / 4 : Nat) : Int), iv ((inQ d k % 4 : Nat) : Int)]) (fun _ => []) := by
  have h := ref_End base A cap d k w hd
  rw [(inQ_find hS h0 h1).1] at h
  exact h

end Go.Proofs
/- Numbers as text. -/
namespace Go.V
open Go
end Go.V
/- Texts of diagrams: what the reference reads (positions in a text). -/
namespace Go.V
open Go
theorem own_oneCell {w : World} {e k n : Nat} {v : Value} {xs : List Value} (h : w.ownsRow 0 e k v n xs) : v.oneCell' = true := by
  obtain ⟨b, c, hv, _⟩ := own_shape h
  rw [hv]; rfl
end Go.V
/- Texts of diagrams: sizes, joins. -/
namespace Go.V
open Go
theorem nth_arc {x : Cr} {p : Nat} (hp : p < 4) : nth [iv x.a0, iv x.a1, iv x.a2, iv x.a3, iv x.s] (0 + p * 1) = some (iv (x.arc p)) := by
  match p, hp with
  | 0, _ => rfl
  | 1, _ => rfl
  | 2, _ => rfl
  | 3, _ => rfl
end Go.V
/- Texts of diagrams: what the program reads. -/
namespace Go.V
open Go
end Go.V
/- Texts of diagrams: cutting and joining. -/
namespace Go.V
open Go
end Go.V
