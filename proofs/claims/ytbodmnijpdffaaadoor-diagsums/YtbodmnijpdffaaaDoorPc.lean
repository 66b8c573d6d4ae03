/- Contracts of the changes that the program makes, chapter 22. -/
import Derived.Test.YtbodmnijpdffaaaDoorPb
import Derived.Test.YtbodmnijpdffaaaDoorDh
import Derived.Test.YtbodmnijpdffaaaDoorProg
import Derived.KernelRfl
namespace Go.Proofs
open Go Go.V
set_option maxRecDepth 20000
theorem dg_turned_2 (a0 a1 a2 a3 : Int) (w : World) : Gives Tryd.prog 45 #[.agg #[iv a0, iv a1, iv a2, iv a3], iv 2] w Nil (fun _ : Unit => True) (fun _ => .agg #[iv a2, iv a3, iv a0, iv a1]) (fun _ => []) := by
  refine fn_of_run (S := Nil) (args := [.agg #[iv a0, iv a1, iv a2, iv a3], iv 2]) (n := 25) (L := []) Tryd.func45 rfl Tryd.ntmps45 (Nat.le_of_ble_eq_true rfl) (Sym.nil _ _) ?_
  change RunC _ _ _ [(0, _), (1, _)] _
  refine RunC.seq ?_
  refine RunC.region ?_
  refine RunL.grows rfl rfl rfl (Grows.box rfl rfl) (fun b2 _ => ?_)
  refine RunL.grows rfl rfl rfl (Grows.alloc rfl Tryd.zeroValue67) (fun b4 _ => ?_)
  refine RunL.nil ?_
  refine Ends.then ?_
  refine RunC.seq ?_
  refine RunC.draw 20 (.still 0 (.still 1 (.still 2 (.still 3 (.still 4 (.still 5 (.still 6 (.still 7 (.still 8 (.still 9 (.still 10 (.still 11 (.still 12 (.still 13 (.still 14 (.still 15 (.still 16 (.still 17 (.still 18 (.still 19 .done)))))))))))))))))))) (by kernel_rfl) (by kernel_rfl) ?_
  refine RunG.still rfl rfl rfl rfl (Still.move rfl rfl) ?_
  refine RunG.still rfl rfl rfl rfl (Still.remP rfl rfl rfl (by omega) (by omega)) ?_
  refine RunG.still rfl rfl rfl rfl (Still.indexArrEL 2 rfl rfl rfl Tryd.underlying67 Tryd.sizeOf3 (rfl) (by omega)) ?_
  refine RunG.still rfl rfl rfl rfl (Still.load rfl rfl Tryd.isAgg3 (fun _ hs => cell_nth (hs.at (i := 1) rfl) rfl)) ?_
  refine RunG.still rfl rfl rfl rfl (Still.move rfl rfl) ?_
  refine RunG.still rfl rfl rfl rfl (Still.add rfl rfl rfl (fits64 (by omega) (by omega))) ?_
  refine RunG.still rfl rfl rfl rfl (Still.remP rfl rfl rfl (by omega) (by omega)) ?_
  refine RunG.still rfl rfl rfl rfl (Still.indexArrEL 3 rfl rfl rfl Tryd.underlying67 Tryd.sizeOf3 (rfl) (by omega)) ?_
  refine RunG.still rfl rfl rfl rfl (Still.load rfl rfl Tryd.isAgg3 (fun _ hs => cell_nth (hs.at (i := 1) rfl) rfl)) ?_
  refine RunG.still rfl rfl rfl rfl (Still.move rfl rfl) ?_
  refine RunG.still rfl rfl rfl rfl (Still.add rfl rfl rfl (fits64 (by omega) (by omega))) ?_
  refine RunG.still rfl rfl rfl rfl (Still.remP rfl rfl rfl (by omega) (by omega)) ?_
  refine RunG.still rfl rfl rfl rfl (Still.indexArrEL 0 rfl rfl rfl Tryd.underlying67 Tryd.sizeOf3 (rfl) (by omega)) ?_
  refine RunG.still rfl rfl rfl rfl (Still.load rfl rfl Tryd.isAgg3 (fun _ hs => cell_nth (hs.at (i := 1) rfl) rfl)) ?_
  refine RunG.still rfl rfl rfl rfl (Still.move rfl rfl) ?_
  refine RunG.still rfl rfl rfl rfl (Still.add rfl rfl rfl (fits64 (by omega) (by omega))) ?_
  refine RunG.still rfl rfl rfl rfl (Still.remP rfl rfl rfl (by omega) (by omega)) ?_
  refine RunG.still rfl rfl rfl rfl (Still.indexArrEL 1 rfl rfl rfl Tryd.underlying67 Tryd.sizeOf3 (rfl) (by omega)) ?_
  refine RunG.still rfl rfl rfl rfl (Still.load rfl rfl Tryd.isAgg3 (fun _ hs => cell_nth (hs.at (i := 1) rfl) rfl)) ?_
  refine RunG.still rfl rfl rfl rfl (Still.build_1_1_1_1 (fun x0_0 x1_0 x2_0 x3_0 => .agg #[x0_0, x1_0, x2_0, x3_0]) rfl rfl rfl rfl rfl (fun _ => by kernel_rfl)) ?_
  refine RunG.done ?_
  show RunL _ _ _ [_] _ _
  refine RunL.does0 rfl rfl (Does.store rfl rfl rfl (i := 0) rfl Tryd.sizeOf67 rfl (rfl) rfl) (fun _ _ => ?_)
  refine RunL.nil ?_
  refine Ends.then ?_
  refine RunC.ret ?_
  refine Ends.leave (.inl rfl) (fun _ _ ok => results1 Tryd.results45 (Holds.cell rfl (fun _ hs => load_cells (vs := [_, _, _, _]) Tryd.isAgg67 Tryd.sizeOf67 rfl (cells_nth (hs.at (i := 0) rfl) ⟨rfl, ⟨rfl, ⟨rfl, ⟨rfl, trivial⟩⟩⟩⟩))) ok) (fun w1 hs => ?_)
  exact Ret.intro () trivial rfl (HSub.nil _) hs

theorem dg_turned_3 (a0 a1 a2 a3 : Int) (w : World) : Gives Tryd.prog 45 #[.agg #[iv a0, iv a1, iv a2, iv a3], iv 3] w Nil (fun _ : Unit => True) (fun _ => .agg #[iv a3, iv a0, iv a1, iv a2]) (fun _ => []) := by
  refine fn_of_run (S := Nil) (args := [.agg #[iv a0, iv a1, iv a2, iv a3], iv 3]) (n := 25) (L := []) Tryd.func45 rfl Tryd.ntmps45 (Nat.le_of_ble_eq_true rfl) (Sym.nil _ _) ?_
  change RunC _ _ _ [(0, _), (1, _)] _
  refine RunC.seq ?_
  refine RunC.region ?_
  refine RunL.grows rfl rfl rfl (Grows.box rfl rfl) (fun b2 _ => ?_)
  refine RunL.grows rfl rfl rfl (Grows.alloc rfl Tryd.zeroValue67) (fun b4 _ => ?_)
  refine RunL.nil ?_
  refine Ends.then ?_
  refine RunC.seq ?_
  refine RunC.draw 20 (.still 0 (.still 1 (.still 2 (.still 3 (.still 4 (.still 5 (.still 6 (.still 7 (.still 8 (.still 9 (.still 10 (.still 11 (.still 12 (.still 13 (.still 14 (.still 15 (.still 16 (.still 17 (.still 18 (.still 19 .done)))))))))))))))))))) (by kernel_rfl) (by kernel_rfl) ?_
  refine RunG.still rfl rfl rfl rfl (Still.move rfl rfl) ?_
  refine RunG.still rfl rfl rfl rfl (Still.remP rfl rfl rfl (by omega) (by omega)) ?_
  refine RunG.still rfl rfl rfl rfl (Still.indexArrEL 3 rfl rfl rfl Tryd.underlying67 Tryd.sizeOf3 (rfl) (by omega)) ?_
  refine RunG.still rfl rfl rfl rfl (Still.load rfl rfl Tryd.isAgg3 (fun _ hs => cell_nth (hs.at (i := 1) rfl) rfl)) ?_
  refine RunG.still rfl rfl rfl rfl (Still.move rfl rfl) ?_
  refine RunG.still rfl rfl rfl rfl (Still.add rfl rfl rfl (fits64 (by omega) (by omega))) ?_
  refine RunG.still rfl rfl rfl rfl (Still.remP rfl rfl rfl (by omega) (by omega)) ?_
  refine RunG.still rfl rfl rfl rfl (Still.indexArrEL 0 rfl rfl rfl Tryd.underlying67 Tryd.sizeOf3 (rfl) (by omega)) ?_
  refine RunG.still rfl rfl rfl rfl (Still.load rfl rfl Tryd.isAgg3 (fun _ hs => cell_nth (hs.at (i := 1) rfl) rfl)) ?_
  refine RunG.still rfl rfl rfl rfl (Still.move rfl rfl) ?_
  refine RunG.still rfl rfl rfl rfl (Still.add rfl rfl rfl (fits64 (by omega) (by omega))) ?_
  refine RunG.still rfl rfl rfl rfl (Still.remP rfl rfl rfl (by omega) (by omega)) ?_
  refine RunG.still rfl rfl rfl rfl (Still.indexArrEL 1 rfl rfl rfl Tryd.underlying67 Tryd.sizeOf3 (rfl) (by omega)) ?_
  refine RunG.still rfl rfl rfl rfl (Still.load rfl rfl Tryd.isAgg3 (fun _ hs => cell_nth (hs.at (i := 1) rfl) rfl)) ?_
  refine RunG.still rfl rfl rfl rfl (Still.move rfl rfl) ?_
  refine RunG.still rfl rfl rfl rfl (Still.add rfl rfl rfl (fits64 (by omega) (by omega))) ?_
  refine RunG.still rfl rfl rfl rfl (Still.remP rfl rfl rfl (by omega) (by omega)) ?_
  refine RunG.still rfl rfl rfl rfl (Still.indexArrEL 2 rfl rfl rfl Tryd.underlying67 Tryd.sizeOf3 (rfl) (by omega)) ?_
  refine RunG.still rfl rfl rfl rfl (Still.load rfl rfl Tryd.isAgg3 (fun _ hs => cell_nth (hs.at (i := 1) rfl) rfl)) ?_
  refine RunG.still rfl rfl rfl rfl (Still.build_1_1_1_1 (fun x0_0 x1_0 x2_0 x3_0 => .agg #[x0_0, x1_0, x2_0, x3_0]) rfl rfl rfl rfl rfl (fun _ => by kernel_rfl)) ?_
  refine RunG.done ?_
  show RunL _ _ _ [_] _ _
  refine RunL.does0 rfl rfl (Does.store rfl rfl rfl (i := 0) rfl Tryd.sizeOf67 rfl (rfl) rfl) (fun _ _ => ?_)
  refine RunL.nil ?_
  refine Ends.then ?_
  refine RunC.ret ?_
  refine Ends.leave (.inl rfl) (fun _ _ ok => results1 Tryd.results45 (Holds.cell rfl (fun _ hs => load_cells (vs := [_, _, _, _]) Tryd.isAgg67 Tryd.sizeOf67 rfl (cells_nth (hs.at (i := 0) rfl) ⟨rfl, ⟨rfl, ⟨rfl, ⟨rfl, trivial⟩⟩⟩⟩))) ok) (fun w1 hs => ?_)
  exact Ret.intro () trivial rfl (HSub.nil _) hs

theorem dg_turned_5 (a0 a1 a2 a3 : Int) (w : World) : Gives Tryd.prog 45 #[.agg #[iv a0, iv a1, iv a2, iv a3], iv 5] w Nil (fun _ : Unit => True) (fun _ => .agg #[iv a1, iv a2, iv a3, iv a0]) (fun _ => []) := by
  refine fn_of_run (S := Nil) (args := [.agg #[iv a0, iv a1, iv a2, iv a3], iv 5]) (n := 25) (L := []) Tryd.func45 rfl Tryd.ntmps45 (Nat.le_of_ble_eq_true rfl) (Sym.nil _ _) ?_
  change RunC _ _ _ [(0, _), (1, _)] _
  refine RunC.seq ?_
  refine RunC.region ?_
  refine RunL.grows rfl rfl rfl (Grows.box rfl rfl) (fun b2 _ => ?_)
  refine RunL.grows rfl rfl rfl (Grows.alloc rfl Tryd.zeroValue67) (fun b4 _ => ?_)
  refine RunL.nil ?_
  refine Ends.then ?_
  refine RunC.seq ?_
  refine RunC.draw 20 (.still 0 (.still 1 (.still 2 (.still 3 (.still 4 (.still 5 (.still 6 (.still 7 (.still 8 (.still 9 (.still 10 (.still 11 (.still 12 (.still 13 (.still 14 (.still 15 (.still 16 (.still 17 (.still 18 (.still 19 .done)))))))))))))))))))) (by kernel_rfl) (by kernel_rfl) ?_
  refine RunG.still rfl rfl rfl rfl (Still.move rfl rfl) ?_
  refine RunG.still rfl rfl rfl rfl (Still.remP rfl rfl rfl (by omega) (by omega)) ?_
  refine RunG.still rfl rfl rfl rfl (Still.indexArrEL 1 rfl rfl rfl Tryd.underlying67 Tryd.sizeOf3 (rfl) (by omega)) ?_
  refine RunG.still rfl rfl rfl rfl (Still.load rfl rfl Tryd.isAgg3 (fun _ hs => cell_nth (hs.at (i := 1) rfl) rfl)) ?_
  refine RunG.still rfl rfl rfl rfl (Still.move rfl rfl) ?_
  refine RunG.still rfl rfl rfl rfl (Still.add rfl rfl rfl (fits64 (by omega) (by omega))) ?_
  refine RunG.still rfl rfl rfl rfl (Still.remP rfl rfl rfl (by omega) (by omega)) ?_
  refine RunG.still rfl rfl rfl rfl (Still.indexArrEL 2 rfl rfl rfl Tryd.underlying67 Tryd.sizeOf3 (rfl) (by omega)) ?_
  refine RunG.still rfl rfl rfl rfl (Still.load rfl rfl Tryd.isAgg3 (fun _ hs => cell_nth (hs.at (i := 1) rfl) rfl)) ?_
  refine RunG.still rfl rfl rfl rfl (Still.move rfl rfl) ?_
  refine RunG.still rfl rfl rfl rfl (Still.add rfl rfl rfl (fits64 (by omega) (by omega))) ?_
  refine RunG.still rfl rfl rfl rfl (Still.remP rfl rfl rfl (by omega) (by omega)) ?_
  refine RunG.still rfl rfl rfl rfl (Still.indexArrEL 3 rfl rfl rfl Tryd.underlying67 Tryd.sizeOf3 (rfl) (by omega)) ?_
  refine RunG.still rfl rfl rfl rfl (Still.load rfl rfl Tryd.isAgg3 (fun _ hs => cell_nth (hs.at (i := 1) rfl) rfl)) ?_
  refine RunG.still rfl rfl rfl rfl (Still.move rfl rfl) ?_
  refine RunG.still rfl rfl rfl rfl (Still.add rfl rfl rfl (fits64 (by omega) (by omega))) ?_
  refine RunG.still rfl rfl rfl rfl (Still.remP rfl rfl rfl (by omega) (by omega)) ?_
  refine RunG.still rfl rfl rfl rfl (Still.indexArrEL 0 rfl rfl rfl Tryd.underlying67 Tryd.sizeOf3 (rfl) (by omega)) ?_
  refine RunG.still rfl rfl rfl rfl (Still.load rfl rfl Tryd.isAgg3 (fun _ hs => cell_nth (hs.at (i := 1) rfl) rfl)) ?_
  refine RunG.still rfl rfl rfl rfl (Still.build_1_1_1_1 (fun x0_0 x1_0 x2_0 x3_0 => .agg #[x0_0, x1_0, x2_0, x3_0]) rfl rfl rfl rfl rfl (fun _ => by kernel_rfl)) ?_
  refine RunG.done ?_
  show RunL _ _ _ [_] _ _
  refine RunL.does0 rfl rfl (Does.store rfl rfl rfl (i := 0) rfl Tryd.sizeOf67 rfl (rfl) rfl) (fun _ _ => ?_)
  refine RunL.nil ?_
  refine Ends.then ?_
  refine RunC.ret ?_
  refine Ends.leave (.inl rfl) (fun _ _ ok => results1 Tryd.results45 (Holds.cell rfl (fun _ hs => load_cells (vs := [_, _, _, _]) Tryd.isAgg67 Tryd.sizeOf67 rfl (cells_nth (hs.at (i := 0) rfl) ⟨rfl, ⟨rfl, ⟨rfl, ⟨rfl, trivial⟩⟩⟩⟩))) ok) (fun w1 hs => ?_)
  exact Ret.intro () trivial rfl (HSub.nil _) hs

theorem dg_mirror1_p (a0 a1 a2 a3 : Int) (w : World) : Gives Tryd.prog 44 #[.agg #[iv a0, iv a1, iv a2, iv a3, iv (1)]] w Nil (fun _ : Unit => True) (fun _ => .agg #[iv a3, iv a0, iv a1, iv a2, iv (-1)]) (fun _ => []) := by
  refine fn_of_run (S := Nil) (args := [.agg #[iv a0, iv a1, iv a2, iv a3, iv (1)]]) (n := 13) (L := []) Tryd.func44 rfl Tryd.ntmps44 (Nat.le_of_ble_eq_true rfl) (Sym.nil _ _) ?_
  change RunC _ _ _ [(0, _)] _
  refine RunC.seq ?_
  refine RunC.region ?_
  refine RunL.grows rfl rfl rfl (Grows.box rfl rfl) (fun b1 _ => ?_)
  refine RunL.grows rfl rfl rfl (Grows.alloc rfl Tryd.zeroValue69) (fun b2 _ => ?_)
  refine RunL.nil ?_
  refine Ends.then ?_
  refine RunC.seq ?_
  refine RunC.draw 10 (.still 0 (.still 1 (.still 2 (.still 3 (.still 4 (.still 6 (.still 7 (.still 8 (.one 5 (.still 9 .done)))))))))) (by kernel_rfl) (by kernel_rfl) ?_
  refine RunG.still rfl rfl rfl rfl (Still.fieldAddrL (off := 0) (off' := 0) rfl rfl Tryd.underlying69 rfl Tryd.sizeOf67 rfl) ?_
  refine RunG.still rfl rfl rfl rfl (Still.loads rfl rfl Tryd.isAgg67 Tryd.sizeOf67 (vs := [_, _, _, _]) rfl (fun _ hs => cells_nth (hs.at (i := 1) rfl) ⟨rfl, ⟨rfl, ⟨rfl, ⟨rfl, trivial⟩⟩⟩⟩)) ?_
  refine RunG.still rfl rfl rfl rfl (Still.fieldAddrL (off := 0) (off' := 4) rfl rfl Tryd.underlying69 rfl Tryd.sizeOf3 rfl) ?_
  refine RunG.still rfl rfl rfl rfl (Still.load rfl rfl Tryd.isAgg3 (fun _ hs => cell_nth (hs.at (i := 1) rfl) rfl)) ?_
  refine RunG.still rfl rfl rfl rfl (Still.sub rfl rfl rfl (fits64 (by omega) (by omega))) ?_
  refine RunG.still rfl rfl rfl rfl (Still.fieldAddrL (off := 0) (off' := 4) rfl rfl Tryd.underlying69 rfl Tryd.sizeOf3 rfl) ?_
  refine RunG.still rfl rfl rfl rfl (Still.load rfl rfl Tryd.isAgg3 (fun _ hs => cell_nth (hs.at (i := 1) rfl) rfl)) ?_
  refine RunG.still rfl rfl rfl rfl (Still.neg rfl rfl (fits64 (by omega) (by omega))) ?_
  refine RunG.grows rfl rfl rfl rfl (Grows.call (vs := #[_, _]) rfl rfl Tryd.call45 (fun w hs => dg_turned_3 a0 a1 a2 a3 w)) (fun _ _ => ?_)
  refine RunG.still rfl rfl rfl rfl (Still.build_4_1 (fun x0_0 x0_1 x0_2 x0_3 x1_0 => .agg #[x0_0, x0_1, x0_2, x0_3, x1_0]) rfl rfl rfl (fun _ => by kernel_rfl)) ?_
  refine RunG.done ?_
  show RunL _ _ _ [_] _ _
  refine RunL.does0 rfl rfl (Does.store rfl rfl rfl (i := 0) rfl Tryd.sizeOf69 rfl (rfl) rfl) (fun _ _ => ?_)
  refine RunL.nil ?_
  refine Ends.then ?_
  refine RunC.ret ?_
  refine Ends.leave (.inl rfl) (fun _ _ ok => results1 Tryd.results44 (Holds.cell rfl (fun _ hs => load_cells (vs := [_, _, _, _, _]) Tryd.isAgg69 Tryd.sizeOf69 rfl (cells_nth (hs.at (i := 0) rfl) ⟨rfl, ⟨rfl, ⟨rfl, ⟨rfl, ⟨rfl, trivial⟩⟩⟩⟩⟩))) ok) (fun w1 hs => ?_)
  exact Ret.intro () trivial rfl (HSub.nil _) hs

theorem dg_mirror1_n (a0 a1 a2 a3 : Int) (w : World) : Gives Tryd.prog 44 #[.agg #[iv a0, iv a1, iv a2, iv a3, iv (-1)]] w Nil (fun _ : Unit => True) (fun _ => .agg #[iv a1, iv a2, iv a3, iv a0, iv (1)]) (fun _ => []) := by
  refine fn_of_run (S := Nil) (args := [.agg #[iv a0, iv a1, iv a2, iv a3, iv (-1)]]) (n := 13) (L := []) Tryd.func44 rfl Tryd.ntmps44 (Nat.le_of_ble_eq_true rfl) (Sym.nil _ _) ?_
  change RunC _ _ _ [(0, _)] _
  refine RunC.seq ?_
  refine RunC.region ?_
  refine RunL.grows rfl rfl rfl (Grows.box rfl rfl) (fun b1 _ => ?_)
  refine RunL.grows rfl rfl rfl (Grows.alloc rfl Tryd.zeroValue69) (fun b2 _ => ?_)
  refine RunL.nil ?_
  refine Ends.then ?_
  refine RunC.seq ?_
  refine RunC.draw 10 (.still 0 (.still 1 (.still 2 (.still 3 (.still 4 (.still 6 (.still 7 (.still 8 (.one 5 (.still 9 .done)))))))))) (by kernel_rfl) (by kernel_rfl) ?_
  refine RunG.still rfl rfl rfl rfl (Still.fieldAddrL (off := 0) (off' := 0) rfl rfl Tryd.underlying69 rfl Tryd.sizeOf67 rfl) ?_
  refine RunG.still rfl rfl rfl rfl (Still.loads rfl rfl Tryd.isAgg67 Tryd.sizeOf67 (vs := [_, _, _, _]) rfl (fun _ hs => cells_nth (hs.at (i := 1) rfl) ⟨rfl, ⟨rfl, ⟨rfl, ⟨rfl, trivial⟩⟩⟩⟩)) ?_
  refine RunG.still rfl rfl rfl rfl (Still.fieldAddrL (off := 0) (off' := 4) rfl rfl Tryd.underlying69 rfl Tryd.sizeOf3 rfl) ?_
  refine RunG.still rfl rfl rfl rfl (Still.load rfl rfl Tryd.isAgg3 (fun _ hs => cell_nth (hs.at (i := 1) rfl) rfl)) ?_
  refine RunG.still rfl rfl rfl rfl (Still.sub rfl rfl rfl (fits64 (by omega) (by omega))) ?_
  refine RunG.still rfl rfl rfl rfl (Still.fieldAddrL (off := 0) (off' := 4) rfl rfl Tryd.underlying69 rfl Tryd.sizeOf3 rfl) ?_
  refine RunG.still rfl rfl rfl rfl (Still.load rfl rfl Tryd.isAgg3 (fun _ hs => cell_nth (hs.at (i := 1) rfl) rfl)) ?_
  refine RunG.still rfl rfl rfl rfl (Still.neg rfl rfl (fits64 (by omega) (by omega))) ?_
  refine RunG.grows rfl rfl rfl rfl (Grows.call (vs := #[_, _]) rfl rfl Tryd.call45 (fun w hs => dg_turned_5 a0 a1 a2 a3 w)) (fun _ _ => ?_)
  refine RunG.still rfl rfl rfl rfl (Still.build_4_1 (fun x0_0 x0_1 x0_2 x0_3 x1_0 => .agg #[x0_0, x0_1, x0_2, x0_3, x1_0]) rfl rfl rfl (fun _ => by kernel_rfl)) ?_
  refine RunG.done ?_
  show RunL _ _ _ [_] _ _
  refine RunL.does0 rfl rfl (Does.store rfl rfl rfl (i := 0) rfl Tryd.sizeOf69 rfl (rfl) rfl) (fun _ _ => ?_)
  refine RunL.nil ?_
  refine Ends.then ?_
  refine RunC.ret ?_
  refine Ends.leave (.inl rfl) (fun _ _ ok => results1 Tryd.results44 (Holds.cell rfl (fun _ hs => load_cells (vs := [_, _, _, _, _]) Tryd.isAgg69 Tryd.sizeOf69 rfl (cells_nth (hs.at (i := 0) rfl) ⟨rfl, ⟨rfl, ⟨rfl, ⟨rfl, ⟨rfl, trivial⟩⟩⟩⟩⟩))) ok) (fun w1 hs => ?_)
  exact Ret.intro () trivial rfl (HSub.nil _) hs

theorem dg_mirror1 (x : Cr) (w : World) (hs : x.s = 1 ∨ x.s = -1) : Gives Tryd.prog 44 (#[crV x] ++ #[]) w Nil (fun _ : Unit => True) (fun _ => crV (mirCr x)) (fun _ => []) := by
  obtain ⟨a0, a1, a2, a3, s⟩ := x
  simp only at hs
  rcases hs with rfl | rfl
  · exact dg_mirror1_p a0 a1 a2 a3 w
  · exact dg_mirror1_n a0 a1 a2 a3 w

theorem dg_reflect1 (x : Cr) (w : World) (hx : x.s = 1 ∨ x.s = -1) : Gives Tryd.prog 46 (#[crV x] ++ #[]) w Nil (fun _ : Unit => True) (fun _ => crV (refCr x)) (fun _ => []) := by
  refine fn_of_run (S := Nil) (args := [crV x]) (n := 19) (L := []) Tryd.func46 rfl Tryd.ntmps46 (Nat.le_of_ble_eq_true rfl) (Sym.nil _ _) ?_
  change RunC _ _ _ [(0, _)] _
  refine RunC.seq ?_
  refine RunC.region ?_
  refine RunL.grows rfl rfl rfl (Grows.box rfl rfl) (fun b1 _ => ?_)
  refine RunL.grows rfl rfl rfl (Grows.alloc rfl Tryd.zeroValue69) (fun b2 _ => ?_)
  refine RunL.nil ?_
  refine Ends.then ?_
  refine RunC.seq ?_
  refine RunC.region ?_
  refine RunL.still rfl rfl rfl (Still.fieldAddrL (off := 0) (off' := 0) rfl rfl Tryd.underlying69 rfl Tryd.sizeOf67 rfl) ?_
  refine RunL.still rfl rfl rfl (Still.loads rfl rfl Tryd.isAgg67 Tryd.sizeOf67 (vs := [_, _, _, _]) rfl (fun _ hs => cells_nth (hs.at (i := 1) rfl) ⟨rfl, ⟨rfl, ⟨rfl, ⟨rfl, trivial⟩⟩⟩⟩)) ?_
  refine RunL.grows rfl rfl rfl (Grows.alloc rfl Tryd.zeroValue67) (fun b3 _ => ?_)
  refine RunL.does0 rfl rfl (Does.store rfl rfl rfl (i := 0) rfl Tryd.sizeOf67 rfl (rfl) rfl) (fun _ _ => ?_)
  refine RunL.nil ?_
  refine Ends.then ?_
  refine RunC.seq ?_
  refine RunC.region ?_
  refine RunL.still rfl rfl rfl (Still.indexArrEL 0 rfl rfl rfl Tryd.underlying67 Tryd.sizeOf3 (rfl) (by omega)) ?_
  refine RunL.still rfl rfl rfl (Still.load rfl rfl Tryd.isAgg3 (fun _ hs => cell_nth (hs.at (i := 0) rfl) rfl)) ?_
  refine RunL.still rfl rfl rfl (Still.indexArrEL 3 rfl rfl rfl Tryd.underlying67 Tryd.sizeOf3 (rfl) (by omega)) ?_
  refine RunL.still rfl rfl rfl (Still.load rfl rfl Tryd.isAgg3 (fun _ hs => cell_nth (hs.at (i := 0) rfl) rfl)) ?_
  refine RunL.still rfl rfl rfl (Still.indexArrEL 2 rfl rfl rfl Tryd.underlying67 Tryd.sizeOf3 (rfl) (by omega)) ?_
  refine RunL.still rfl rfl rfl (Still.load rfl rfl Tryd.isAgg3 (fun _ hs => cell_nth (hs.at (i := 0) rfl) rfl)) ?_
  refine RunL.still rfl rfl rfl (Still.indexArrEL 1 rfl rfl rfl Tryd.underlying67 Tryd.sizeOf3 (rfl) (by omega)) ?_
  refine RunL.still rfl rfl rfl (Still.load rfl rfl Tryd.isAgg3 (fun _ hs => cell_nth (hs.at (i := 0) rfl) rfl)) ?_
  refine RunL.still rfl rfl rfl (Still.build_1_1_1_1 (fun x0_0 x1_0 x2_0 x3_0 => .agg #[x0_0, x1_0, x2_0, x3_0]) rfl rfl rfl rfl rfl (fun _ => by kernel_rfl)) ?_
  refine RunL.still rfl rfl rfl (Still.fieldAddrL (off := 0) (off' := 4) rfl rfl Tryd.underlying69 rfl Tryd.sizeOf3 rfl) ?_
  refine RunL.still rfl rfl rfl (Still.load rfl rfl Tryd.isAgg3 (fun _ hs => cell_nth (hs.at (i := 2) rfl) rfl)) ?_
  refine RunL.still rfl rfl rfl (Still.neg rfl rfl (fits64 (by omega) (by omega))) ?_
  refine RunL.still rfl rfl rfl (Still.build_4_1 (fun x0_0 x0_1 x0_2 x0_3 x1_0 => .agg #[x0_0, x0_1, x0_2, x0_3, x1_0]) rfl rfl rfl (fun _ => by kernel_rfl)) ?_
  refine RunL.does0 rfl rfl (Does.store rfl rfl rfl (i := 1) rfl Tryd.sizeOf69 rfl (rfl) rfl) (fun _ _ => ?_)
  refine RunL.nil ?_
  refine Ends.then ?_
  refine RunC.ret ?_
  refine Ends.leave (.inl rfl) (fun _ _ ok => results1 Tryd.results46 (Holds.cell rfl (fun _ hs => load_cells (vs := [_, _, _, _, _]) Tryd.isAgg69 Tryd.sizeOf69 rfl (cells_nth (hs.at (i := 1) rfl) ⟨rfl, ⟨rfl, ⟨rfl, ⟨rfl, ⟨rfl, trivial⟩⟩⟩⟩⟩))) ok) (fun w1 hs => ?_)
  exact Ret.intro () trivial rfl (HSub.nil _) hs

theorem dg_Clone_some (B A : Addr) (cap : Nat) (d : Dia) (w : World) (hd : DiaAt w (some B) A d) (h200 : d.cross.length ≤ 200) : Gives Tryd.prog 64 #[.slice (some B) d.cross.length cap] w Nil (fun v : Value => Shape v d.cross.length) (fun v => v) (fun v => [HL.own 69 5 v d.cross.length (d.cross.flatMap encCr)]) := by
  refine fn_of_run (S := Nil) (args := [.slice (some B) d.cross.length cap]) (n := 8) (L := []) Tryd.func64 rfl Tryd.ntmps64 (Nat.le_of_ble_eq_true rfl) (Sym.nil _ _) ?_
  change RunC _ _ _ [(0, _)] _
  refine RunC.seq ?_
  refine RunC.region ?_
  refine RunL.still rfl rfl rfl (Still.assign rfl rfl) ?_
  refine RunL.nil ?_
  refine Ends.then ?_
  refine RunC.seq ?_
  refine RunC.seq ?_
  refine RunC.region ?_
  refine RunL.still rfl rfl rfl (Still.move rfl rfl) ?_
  refine RunL.still rfl rfl rfl (Still.eqlNil rfl rfl rfl Tryd.underlying22) ?_
  refine RunL.nil ?_
  refine Ends.then ?_
  refine RunC.cond rfl (fun h4 => ?_) (fun h4 => ?_)
  · skip
    exact absurd h4 (by simp)
  · skip
    refine RunC.skip ?_
    refine Ends.then ?_
    refine RunC.seq ?_
    refine RunC.region ?_
    refine RunL.grows rfl rfl rfl (Grows.empty rfl Tryd.underlying22 Tryd.sizeOf69 Tryd.zeroValue69) (fun b5 _ => ?_)
    refine RunL.still rfl rfl rfl (Still.move rfl rfl) ?_
    refine RunL.does rfl rfl rfl (Does.appendTo (n' := d.cross.length) (xs' := (d.cross.flatMap encCr)) (news := (d.cross.flatMap encCr)) rfl rfl rfl rfl (i := 0) rfl Tryd.underlying22 (by kernel_rfl : (_ : Option _) = some (some (.agg #[.int .i64 0, .int .i64 0, .int .i64 0, .int .i64 0, .int .i64 0]), 5, 40)) rfl rfl (fun w hs => Cells.base0 (hd.cells' rfl) hs) (flat_len encCr_len _) (encCr_one _) (by omega) (by omega) (Nat.zero_add _) (rfl)) (fun v7 hv7 => ?_)
    refine RunL.still rfl rfl rfl (Still.assign rfl rfl) ?_
    refine RunL.nil ?_
    refine Ends.then ?_
    refine RunC.ret ?_
    refine Ends.leave (.inl rfl) (fun _ _ ok => results1 Tryd.results64 (Holds.tmp rfl) ok) (fun w1 hs => ?_)
    exact Ret.intro v7 (own_shape (hs.own (i := 0) rfl)) rfl (HSub.pick 0 rfl (HSub.nil _)) hs

theorem dg_Clone_none (cap : Nat) (d : Dia) (w : World) (h0 : d.cross = []) : Gives Tryd.prog 64 #[.slice none d.cross.length cap] w Nil (fun v : Value => Shape v d.cross.length) (fun v => v) (fun v => [HL.own 69 5 v d.cross.length (d.cross.flatMap encCr)]) := by
  refine fn_of_run (S := Nil) (args := [.slice none d.cross.length cap]) (n := 8) (L := []) Tryd.func64 rfl Tryd.ntmps64 (Nat.le_of_ble_eq_true rfl) (Sym.nil _ _) ?_
  change RunC _ _ _ [(0, _)] _
  refine RunC.seq ?_
  refine RunC.region ?_
  refine RunL.still rfl rfl rfl (Still.assign rfl rfl) ?_
  refine RunL.nil ?_
  refine Ends.then ?_
  refine RunC.seq ?_
  refine RunC.seq ?_
  refine RunC.region ?_
  refine RunL.still rfl rfl rfl (Still.move rfl rfl) ?_
  refine RunL.still rfl rfl rfl (Still.eqlNil rfl rfl rfl Tryd.underlying22) ?_
  refine RunL.nil ?_
  refine Ends.then ?_
  refine RunC.cond rfl (fun h4 => ?_) (fun h4 => ?_)
  · skip
    refine RunC.seq ?_
    refine RunC.region ?_
    refine RunL.still rfl rfl rfl (Still.assign rfl rfl) ?_
    refine RunL.nil ?_
    refine Ends.then ?_
    refine RunC.ret ?_
    refine Ends.then_ret ?_
    refine Ends.leave (.inl rfl) (fun _ _ ok => results1 Tryd.results64 (Holds.tmp rfl) ok) (fun w1 hs => ?_)
    exact Ret.intro (.slice none 0 0) (by rw [h0]; exact ⟨none, 0, rfl, fun h => absurd h (by decide)⟩) rfl (HSub.pick 0 (by rw [h0]; rfl) (HSub.nil _)) (hs.own_nil 69 5)
  · skip
    exact absurd h4 (by decide)

theorem dg_Clone (base : Option Addr) (A : Addr) (cap : Nat) (d : Dia) (w : World) (hd : DiaAt w base A d) (h200 : d.cross.length ≤ 200) : Gives Tryd.prog 64 #[.slice base d.cross.length cap] w Nil (fun v : Value => Shape v d.cross.length) (fun v => v) (fun v => [HL.own 69 5 v d.cross.length (d.cross.flatMap encCr)]) := by
  cases base with
  | some B => exact dg_Clone_some B A cap d w hd h200
  | none =>
    refine dg_Clone_none cap d w ?_
    rcases Nat.eq_zero_or_pos d.cross.length with h0 | h0
    · exact List.length_eq_zero_iff.1 h0
    · exact absurd (hd.base h0) (by simp)

theorem dg_copied (base : Option Addr) (A : Addr) (cap : Nat) (d : Dia) (g : Nat) (cp : Array Value) (f : Cr → Cr) (w : World) (hd : DiaAt w base A d) (h200 : d.cross.length ≤ 200) (hcf : ∀ args w, (callFunc g args).run Tryd.prog w = .ok (.enter g args) w)
  (hf : ∀ x ∈ d.cross, ∀ w', Old Nil w w' → Gives Tryd.prog g (#[crV x] ++ cp) w' Nil (fun _ : Unit => True) (fun _ => crV (f x)) (fun _ => [])) :
  Gives Tryd.prog 43 #[diaV base cap d, .func (.func g) #[] cp] w Nil (fun q : Option Addr × Nat => OKB q (mapD f d).cross.length) (fun q => diaV q.1 q.2 (mapD f d)) (fun q => [ownD q (mapD f d)]) := by
  have hlen := hd.len
  refine fn_of_run (S := Nil) (args := [diaV base cap d, .func (.func g) #[] cp]) (n := 29) (L := []) Tryd.func43 rfl Tryd.ntmps43 (Nat.le_of_ble_eq_true rfl) (Sym.nil _ _) ?_
  change RunC _ _ _ [(0, _), (1, _)] _
  refine RunC.seq ?_
  refine RunC.region ?_
  refine RunL.grows rfl rfl rfl (Grows.box rfl rfl) (fun b2 _ => ?_)
  refine RunL.grows rfl rfl rfl (Grows.alloc rfl Tryd.zeroValue24) (fun b4 _ => ?_)
  refine RunL.nil ?_
  refine Ends.then ?_
  refine RunC.seq ?_
  refine RunC.region ?_
  refine RunL.still rfl rfl rfl (Still.fieldAddrL (off := 0) (off' := 0) rfl rfl Tryd.underlying24 rfl Tryd.sizeOf22 rfl) ?_
  refine RunL.still rfl rfl rfl (Still.load rfl rfl Tryd.isAgg22 (fun _ hs => cell_nth (hs.at (i := 1) rfl) rfl)) ?_
  refine RunL.grows rfl rfl rfl (Grows.call (vs := #[_]) rfl rfl Tryd.call64 (fun w hs => dg_Clone base A cap d w (hd.sym hs) h200)) (fun v10 hv10 => ?_)
  obtain ⟨vb, vc, hvv, hvb⟩ := hv10
  subst hvv
  refine RunL.still rfl rfl rfl (Still.assign rfl rfl) ?_
  refine RunL.nil ?_
  refine Ends.then ?_
  refine RunC.seq ?_
  refine RunC.seq ?_
  refine RunC.region ?_
  refine RunL.still rfl rfl rfl (Still.move rfl rfl) ?_
  refine RunL.still rfl rfl rfl (Still.lenOwn rfl rfl Tryd.underlying22 (fun _ hs => hs.own (i := 0) rfl)) ?_
  refine RunL.still rfl rfl rfl (Still.move rfl rfl) ?_
  refine RunL.nil ?_
  refine Ends.then ?_
  refine RunC.block ?_
  refine RunC.loop2 (γ := Nat) (keep := [(1, _), (2, _), (4, _), (5, _), (11, _), (12, _)]) (hkeep := [_, _]) (fun c => c ≤ d.cross.length) (fun c => d.cross.length - c) (fun c => [(13, iv c)]) (fun c => [HL.own 69 5 (.slice vb d.cross.length vc) d.cross.length ((mapTo f d.cross c).flatMap encCr)]) 0 (by omega) (Fr.Sub.cons rfl (Fr.Sub.nil _)) (Fr.Sub.cons rfl (Fr.Sub.cons rfl (Fr.Sub.cons rfl (Fr.Sub.cons rfl (Fr.Sub.cons rfl (Fr.Sub.cons rfl (Fr.Sub.nil _))))))) (HSub.pick 0 (by rw [mapTo_zero]; rfl) (HSub.pick 0 rfl (HSub.pick 0 rfl (HSub.nil _)))) ?_
  rintro c hc
  refine RunC.seq ?_
  refine RunC.region ?_
  refine RunL.still rfl rfl rfl (Still.lss rfl rfl rfl) ?_
  refine RunL.nil ?_
  refine Ends.then ?_
  refine RunC.seq ?_
  refine RunC.cond rfl (fun h14 => ?_) (fun h14 => ?_)
  · have h14 := of_decide_eq_true h14
    obtain ⟨x, hx⟩ := get_of_lt (l := d.cross) (i := c) (by omega)
    refine RunC.skip ?_
    refine Ends.then ?_
    refine RunC.seq ?_
    refine RunC.block ?_
    refine RunC.seq ?_
    refine RunC.region ?_
    refine RunL.still rfl rfl rfl (Still.move rfl rfl) ?_
    refine RunL.still rfl rfl rfl (Still.indexOwn rfl rfl rfl Tryd.underlying22 Tryd.sizeOf69 (fun _ hs => hs.own (i := 0) rfl) (by omega)) ?_
    refine RunL.still rfl rfl rfl (Still.loads rfl rfl Tryd.isAgg69 Tryd.sizeOf69 (vs := encCr x) rfl (fun w hs => own_cells (hs.own (i := 0) rfl) (fun j u hu => flat_get encCr_len (mapTo_get hx) hu))) ?_
    refine RunL.grows rfl rfl rfl (Grows.alloc rfl Tryd.zeroValue69) (fun b7 _ => ?_)
    refine RunL.still rfl rfl rfl (Still.assign rfl rfl) ?_
    refine RunL.does0 rfl rfl (Does.store rfl rfl rfl (i := 0) rfl Tryd.sizeOf69 rfl (rfl) rfl) (fun _ _ => ?_)
    refine RunL.nil ?_
    refine Ends.then ?_
    refine RunC.region ?_
    refine RunL.still rfl rfl rfl (Still.move rfl rfl) ?_
    refine RunL.still rfl rfl rfl (Still.move rfl rfl) ?_
    refine RunL.still rfl rfl rfl (Still.move rfl rfl) ?_
    refine RunL.still rfl rfl rfl (Still.loads rfl rfl Tryd.isAgg69 Tryd.sizeOf69 (vs := [_, _, _, _, _]) rfl (fun _ hs => cells_nth (hs.at (i := 0) rfl) ⟨rfl, ⟨rfl, ⟨rfl, ⟨rfl, ⟨rfl, trivial⟩⟩⟩⟩⟩)) ?_
    refine RunL.grows rfl rfl rfl (Grows.callV (vs := #[_]) rfl rfl rfl hcf (fun w hs => hf x (List.mem_of_getElem? hx) w hs.old)) (fun _ _ => ?_)
    refine RunL.still rfl rfl rfl (Still.indexOwn rfl rfl rfl Tryd.underlying22 Tryd.sizeOf69 (fun _ hs => hs.own (i := 1) rfl) (by omega)) ?_
    refine RunL.does0 rfl rfl (Does.storeOwn (xs' := ((mapTo f d.cross (c + 1)).flatMap encCr)) rfl rfl rfl rfl (i := 1) rfl Tryd.sizeOf69 rfl (by decide) rfl (by rw [flat_len encCr_len, mapTo_len]; omega) (fun i => by rw [← mapTo_set hx]; exact flat_set encCr_len (by decide) _ (by rw [mapTo_len]; omega) i)) (fun _ _ => ?_)
    refine RunL.nil ?_
    refine Ends.block ?_
    refine Ends.then ?_
    refine RunC.region ?_
    refine RunL.still rfl rfl rfl (Still.add rfl rfl rfl (fits64 (by omega) (by omega))) ?_
    refine RunL.still rfl rfl rfl (Still.move rfl rfl) ?_
    refine RunL.nil ?_
    refine Ends.again (c + 1) ?_ ?_ (Fr.Sub.app ?_ ?_) ?_
    · show _; omega
    · show _ < _; omega
    · exact Fr.Sub.cons rfl (Fr.Sub.nil _)
    · exact Fr.Sub.cons rfl (Fr.Sub.cons rfl (Fr.Sub.cons rfl (Fr.Sub.cons rfl (Fr.Sub.cons rfl (Fr.Sub.cons rfl (Fr.Sub.nil _))))))
    · exact HSub.pick 1 rfl (HSub.pick 1 rfl (HSub.pick 1 rfl (HSub.nil _)))
  · have h14 := of_decide_eq_false h14
    obtain rfl : c = d.cross.length := by omega
    refine RunC.exit ?_
    refine Ends.then_exit ?_
    refine Ends.then_exit ?_
    refine Ends.block_exit ?_
    refine Ends.then ?_
    refine RunC.seq ?_
    refine RunC.region ?_
    refine RunL.still rfl rfl rfl (Still.move rfl rfl) ?_
    refine RunL.still rfl rfl rfl (Still.fieldAddrL (off := 0) (off' := 1) rfl rfl Tryd.underlying24 rfl Tryd.sizeOf3 rfl) ?_
    refine RunL.still rfl rfl rfl (Still.load rfl rfl Tryd.isAgg3 (fun _ hs => cell_nth (hs.at (i := 2) rfl) rfl)) ?_
    refine RunL.still rfl rfl rfl (Still.build_1_1 (fun x0_0 x1_0 => .agg #[x0_0, x1_0]) rfl rfl rfl (fun _ => by kernel_rfl)) ?_
    refine RunL.does0 rfl rfl (Does.store rfl rfl rfl (i := 1) rfl Tryd.sizeOf24 rfl (rfl) rfl) (fun _ _ => ?_)
    refine RunL.nil ?_
    refine Ends.then ?_
    refine RunC.ret ?_
    refine Ends.leave (.inl rfl) (fun _ _ ok => results1 Tryd.results43 (Holds.cell rfl (fun _ hs => load_cells (vs := [_, _]) Tryd.isAgg24 Tryd.sizeOf24 rfl (cells_nth (hs.at (i := 1) rfl) ⟨rfl, ⟨rfl, trivial⟩⟩))) ok) (fun w1 hs => ?_)
    exact Ret.intro (vb, vc) (by rw [OKB, mapD_len]; exact hvb) (by show _ = diaV vb vc (mapD f d); simp only [diaV, mapD_len]; rfl) (HSub.pick 0 (by rw [mapTo_all]; simp only [ownD, mapD_len]; rfl) (HSub.nil _)) hs

theorem dg_Mirror_ok (base : Option Addr) (A : Addr) (cap : Nat) (d : Dia) (w : World) (hd : DiaAt w base A d) (hc : checkI d = 0) : Gives Tryd.prog 19 #[diaV base cap d] w Nil (fun q : Option Addr × Nat => OKB q (mapD mirCr d).cross.length) (fun q => .tuple #[diaV q.1 q.2 (mapD mirCr d), iv 0]) (fun q => [ownD q (mapD mirCr d)]) := by
  obtain ⟨hS, hPl⟩ := checkI_ok.1 hc
  have h200 := hS.1
  have hlo := hS.2.1
  have hlo2 := hS.2.2.1
  have hsg : ∀ x ∈ d.cross, x.s = 1 ∨ x.s = -1 := fun x hx => (hS.2.2.2.1 x hx).1
  refine fn_of_run (S := Nil) (args := [diaV base cap d]) (n := 17) (L := []) Tryd.func19 rfl Tryd.ntmps19 (Nat.le_of_ble_eq_true rfl) (Sym.nil _ _) ?_
  change RunC _ _ _ [(0, _)] _
  refine RunC.seq ?_
  refine RunC.region ?_
  refine RunL.grows rfl rfl rfl (Grows.box rfl rfl) (fun b1 _ => ?_)
  refine RunL.grows rfl rfl rfl (Grows.alloc rfl Tryd.zeroValue24) (fun b2 _ => ?_)
  refine RunL.still rfl rfl rfl (Still.assign rfl rfl) ?_
  refine RunL.nil ?_
  refine Ends.then ?_
  refine RunC.seq ?_
  refine RunC.seq ?_
  refine RunC.region ?_
  refine RunL.still rfl rfl rfl (Still.loads rfl rfl Tryd.isAgg24 Tryd.sizeOf24 (vs := [_, _]) rfl (fun _ hs => cells_nth (hs.at (i := 1) rfl) ⟨rfl, ⟨rfl, trivial⟩⟩)) ?_
  refine RunL.grows rfl rfl rfl (Grows.call (vs := #[_]) rfl rfl Tryd.call35 (fun w hs => dg_enter_ok base A cap d w (hd.sym hs) hc)) (fun ⟨eb, av⟩ hav => ?_)
  refine RunL.still rfl rfl rfl (Still.move rfl rfl) ?_
  refine RunL.still rfl rfl rfl (Still.extractN rfl rfl rfl) ?_
  refine RunL.still rfl rfl rfl (Still.extractN rfl rfl rfl) ?_
  refine RunL.still rfl rfl rfl (Still.assign rfl rfl) ?_
  refine RunL.still rfl rfl rfl (Still.assign rfl rfl) ?_
  refine RunL.nil ?_
  refine Ends.then ?_
  refine RunC.seq ?_
  refine RunC.region ?_
  refine RunL.still rfl rfl rfl (Still.move rfl rfl) ?_
  refine RunL.still rfl rfl rfl (Still.neq rfl rfl rfl) ?_
  refine RunL.nil ?_
  refine Ends.then ?_
  refine RunC.cond rfl (fun h12 => ?_) (fun h12 => ?_)
  · have h12 := of_decide_eq_true h12
    exact absurd rfl h12
  · have h12 := of_decide_eq_false h12
    refine RunC.skip ?_
    refine Ends.then ?_
    refine RunC.seq ?_
    refine RunC.region ?_
    refine RunL.still rfl rfl rfl (Still.loads rfl rfl Tryd.isAgg24 Tryd.sizeOf24 (vs := [_, _]) rfl (fun _ hs => cells_nth (hs.at (i := 3) rfl) ⟨rfl, ⟨rfl, trivial⟩⟩)) ?_
    refine RunL.grows rfl rfl rfl (Grows.call (vs := #[_, _]) rfl rfl Tryd.call43 (fun w hs => dg_copied base A cap d 44 #[] mirCr w (hd.sym hs) h200 Tryd.call44 (fun x hx w1 _ => dg_mirror1 x w1 (hsg x hx)))) (fun q hq => ?_)
    refine RunL.does0 rfl rfl (Does.store rfl rfl rfl (i := 3) rfl Tryd.sizeOf24 rfl (rfl) rfl) (fun _ _ => ?_)
    refine RunL.still rfl rfl rfl (Still.assign rfl rfl) ?_
    refine RunL.nil ?_
    refine Ends.then ?_
    refine RunC.ret ?_
    refine Ends.leave (.inl rfl) (fun _ _ ok => results2 Tryd.results19 (Holds.cell rfl (fun _ hs => load_cells (vs := [_, _]) Tryd.isAgg24 Tryd.sizeOf24 rfl (cells_nth (hs.at (i := 3) rfl) ⟨rfl, ⟨rfl, trivial⟩⟩))) (Holds.tmp rfl) ok) (fun w1 hs => ?_)
    exact Ret.intro q hq rfl (HSub.pick 0 rfl (HSub.nil _)) hs

theorem dg_Mirror_bad (base : Option Addr) (A : Addr) (cap : Nat) (d : Dia) (w : World) (hd : DiaAt w base A d) (hc : checkI d ≠ 0) : Gives Tryd.prog 19 #[diaV base cap d] w Nil (fun _ : Unit => True) (fun _ => .tuple #[.agg #[.slice none 0 0, iv 0], iv (checkI d)]) (fun _ => []) := by
  refine fn_of_run (S := Nil) (args := [diaV base cap d]) (n := 17) (L := []) Tryd.func19 rfl Tryd.ntmps19 (Nat.le_of_ble_eq_true rfl) (Sym.nil _ _) ?_
  change RunC _ _ _ [(0, _)] _
  refine RunC.seq ?_
  refine RunC.region ?_
  refine RunL.grows rfl rfl rfl (Grows.box rfl rfl) (fun b1 _ => ?_)
  refine RunL.grows rfl rfl rfl (Grows.alloc rfl Tryd.zeroValue24) (fun b2 _ => ?_)
  refine RunL.still rfl rfl rfl (Still.assign rfl rfl) ?_
  refine RunL.nil ?_
  refine Ends.then ?_
  refine RunC.seq ?_
  refine RunC.seq ?_
  refine RunC.region ?_
  refine RunL.still rfl rfl rfl (Still.loads rfl rfl Tryd.isAgg24 Tryd.sizeOf24 (vs := [_, _]) rfl (fun _ hs => cells_nth (hs.at (i := 1) rfl) ⟨rfl, ⟨rfl, trivial⟩⟩)) ?_
  refine RunL.grows rfl rfl rfl (Grows.call (vs := #[_]) rfl rfl Tryd.call35 (fun w hs => dg_enter_bad base A cap d w (hd.sym hs) hc)) (fun _ _ => ?_)
  refine RunL.still rfl rfl rfl (Still.move rfl rfl) ?_
  refine RunL.still rfl rfl rfl (Still.extractN rfl rfl rfl) ?_
  refine RunL.still rfl rfl rfl (Still.extractN rfl rfl rfl) ?_
  refine RunL.still rfl rfl rfl (Still.assign rfl rfl) ?_
  refine RunL.still rfl rfl rfl (Still.assign rfl rfl) ?_
  refine RunL.nil ?_
  refine Ends.then ?_
  refine RunC.seq ?_
  refine RunC.region ?_
  refine RunL.still rfl rfl rfl (Still.move rfl rfl) ?_
  refine RunL.still rfl rfl rfl (Still.neq rfl rfl rfl) ?_
  refine RunL.nil ?_
  refine Ends.then ?_
  refine RunC.cond rfl (fun h12 => ?_) (fun h12 => ?_)
  · have h12 := of_decide_eq_true h12
    refine RunC.seq ?_
    refine RunC.region ?_
    refine RunL.still rfl rfl rfl (Still.build_0 (.agg #[.slice none 0 0, .int .i64 0]) rfl (fun _ => by kernel_rfl)) ?_
    refine RunL.still rfl rfl rfl (Still.move rfl rfl) ?_
    refine RunL.does0 rfl rfl (Does.store rfl rfl rfl (i := 0) rfl Tryd.sizeOf24 rfl (rfl) rfl) (fun _ _ => ?_)
    refine RunL.still rfl rfl rfl (Still.assign rfl rfl) ?_
    refine RunL.nil ?_
    refine Ends.then ?_
    refine RunC.ret ?_
    refine Ends.then_ret ?_
    refine Ends.leave (.inl rfl) (fun _ _ ok => results2 Tryd.results19 (Holds.cell rfl (fun _ hs => load_cells (vs := [_, _]) Tryd.isAgg24 Tryd.sizeOf24 rfl (cells_nth (hs.at (i := 0) rfl) ⟨rfl, ⟨rfl, trivial⟩⟩))) (Holds.tmp rfl) ok) (fun w1 hs => ?_)
    exact Ret.intro () trivial rfl (HSub.nil _) hs
  · have h12 := of_decide_eq_false h12
    exact absurd hc h12

theorem dg_Reflect_ok (base : Option Addr) (A : Addr) (cap : Nat) (d : Dia) (w : World) (hd : DiaAt w base A d) (hc : checkI d = 0) : Gives Tryd.prog 20 #[diaV base cap d] w Nil (fun q : Option Addr × Nat => OKB q (mapD refCr d).cross.length) (fun q => .tuple #[diaV q.1 q.2 (mapD refCr d), iv 0]) (fun q => [ownD q (mapD refCr d)]) := by
  obtain ⟨hS, hPl⟩ := checkI_ok.1 hc
  have h200 := hS.1
  have hlo := hS.2.1
  have hlo2 := hS.2.2.1
  have hsg : ∀ x ∈ d.cross, x.s = 1 ∨ x.s = -1 := fun x hx => (hS.2.2.2.1 x hx).1
  refine fn_of_run (S := Nil) (args := [diaV base cap d]) (n := 17) (L := []) Tryd.func20 rfl Tryd.ntmps20 (Nat.le_of_ble_eq_true rfl) (Sym.nil _ _) ?_
  change RunC _ _ _ [(0, _)] _
  refine RunC.seq ?_
  refine RunC.region ?_
  refine RunL.grows rfl rfl rfl (Grows.box rfl rfl) (fun b1 _ => ?_)
  refine RunL.grows rfl rfl rfl (Grows.alloc rfl Tryd.zeroValue24) (fun b2 _ => ?_)
  refine RunL.still rfl rfl rfl (Still.assign rfl rfl) ?_
  refine RunL.nil ?_
  refine Ends.then ?_
  refine RunC.seq ?_
  refine RunC.seq ?_
  refine RunC.region ?_
  refine RunL.still rfl rfl rfl (Still.loads rfl rfl Tryd.isAgg24 Tryd.sizeOf24 (vs := [_, _]) rfl (fun _ hs => cells_nth (hs.at (i := 1) rfl) ⟨rfl, ⟨rfl, trivial⟩⟩)) ?_
  refine RunL.grows rfl rfl rfl (Grows.call (vs := #[_]) rfl rfl Tryd.call35 (fun w hs => dg_enter_ok base A cap d w (hd.sym hs) hc)) (fun ⟨eb, av⟩ hav => ?_)
  refine RunL.still rfl rfl rfl (Still.move rfl rfl) ?_
  refine RunL.still rfl rfl rfl (Still.extractN rfl rfl rfl) ?_
  refine RunL.still rfl rfl rfl (Still.extractN rfl rfl rfl) ?_
  refine RunL.still rfl rfl rfl (Still.assign rfl rfl) ?_
  refine RunL.still rfl rfl rfl (Still.assign rfl rfl) ?_
  refine RunL.nil ?_
  refine Ends.then ?_
  refine RunC.seq ?_
  refine RunC.region ?_
  refine RunL.still rfl rfl rfl (Still.move rfl rfl) ?_
  refine RunL.still rfl rfl rfl (Still.neq rfl rfl rfl) ?_
  refine RunL.nil ?_
  refine Ends.then ?_
  refine RunC.cond rfl (fun h12 => ?_) (fun h12 => ?_)
  · have h12 := of_decide_eq_true h12
    exact absurd rfl h12
  · have h12 := of_decide_eq_false h12
    refine RunC.skip ?_
    refine Ends.then ?_
    refine RunC.seq ?_
    refine RunC.region ?_
    refine RunL.still rfl rfl rfl (Still.loads rfl rfl Tryd.isAgg24 Tryd.sizeOf24 (vs := [_, _]) rfl (fun _ hs => cells_nth (hs.at (i := 3) rfl) ⟨rfl, ⟨rfl, trivial⟩⟩)) ?_
    refine RunL.grows rfl rfl rfl (Grows.call (vs := #[_, _]) rfl rfl Tryd.call43 (fun w hs => dg_copied base A cap d 46 #[] refCr w (hd.sym hs) h200 Tryd.call46 (fun x hx w1 _ => dg_reflect1 x w1 (hsg x hx)))) (fun q hq => ?_)
    refine RunL.does0 rfl rfl (Does.store rfl rfl rfl (i := 3) rfl Tryd.sizeOf24 rfl (rfl) rfl) (fun _ _ => ?_)
    refine RunL.still rfl rfl rfl (Still.assign rfl rfl) ?_
    refine RunL.nil ?_
    refine Ends.then ?_
    refine RunC.ret ?_
    refine Ends.leave (.inl rfl) (fun _ _ ok => results2 Tryd.results20 (Holds.cell rfl (fun _ hs => load_cells (vs := [_, _]) Tryd.isAgg24 Tryd.sizeOf24 rfl (cells_nth (hs.at (i := 3) rfl) ⟨rfl, ⟨rfl, trivial⟩⟩))) (Holds.tmp rfl) ok) (fun w1 hs => ?_)
    exact Ret.intro q hq rfl (HSub.pick 0 rfl (HSub.nil _)) hs

theorem dg_Reflect_bad (base : Option Addr) (A : Addr) (cap : Nat) (d : Dia) (w : World) (hd : DiaAt w base A d) (hc : checkI d ≠ 0) : Gives Tryd.prog 20 #[diaV base cap d] w Nil (fun _ : Unit => True) (fun _ => .tuple #[.agg #[.slice none 0 0, iv 0], iv (checkI d)]) (fun _ => []) := by
  refine fn_of_run (S := Nil) (args := [diaV base cap d]) (n := 17) (L := []) Tryd.func20 rfl Tryd.ntmps20 (Nat.le_of_ble_eq_true rfl) (Sym.nil _ _) ?_
  change RunC _ _ _ [(0, _)] _
  refine RunC.seq ?_
  refine RunC.region ?_
  refine RunL.grows rfl rfl rfl (Grows.box rfl rfl) (fun b1 _ => ?_)
  refine RunL.grows rfl rfl rfl (Grows.alloc rfl Tryd.zeroValue24) (fun b2 _ => ?_)
  refine RunL.still rfl rfl rfl (Still.assign rfl rfl) ?_
  refine RunL.nil ?_
  refine Ends.then ?_
  refine RunC.seq ?_
  refine RunC.seq ?_
  refine RunC.region ?_
  refine RunL.still rfl rfl rfl (Still.loads rfl rfl Tryd.isAgg24 Tryd.sizeOf24 (vs := [_, _]) rfl (fun _ hs => cells_nth (hs.at (i := 1) rfl) ⟨rfl, ⟨rfl, trivial⟩⟩)) ?_
  refine RunL.grows rfl rfl rfl (Grows.call (vs := #[_]) rfl rfl Tryd.call35 (fun w hs => dg_enter_bad base A cap d w (hd.sym hs) hc)) (fun _ _ => ?_)
  refine RunL.still rfl rfl rfl (Still.move rfl rfl) ?_
  refine RunL.still rfl rfl rfl (Still.extractN rfl rfl rfl) ?_
  refine RunL.still rfl rfl rfl (Still.extractN rfl rfl rfl) ?_
  refine RunL.still rfl rfl rfl (Still.assign rfl rfl) ?_
  refine RunL.still rfl rfl rfl (Still.assign rfl rfl) ?_
  refine RunL.nil ?_
  refine Ends.then ?_
  refine RunC.seq ?_
  refine RunC.region ?_
  refine RunL.still rfl rfl rfl (Still.move rfl rfl) ?_
  refine RunL.still rfl rfl rfl (Still.neq rfl rfl rfl) ?_
  refine RunL.nil ?_
  refine Ends.then ?_
  refine RunC.cond rfl (fun h12 => ?_) (fun h12 => ?_)
  · have h12 := of_decide_eq_true h12
    refine RunC.seq ?_
    refine RunC.region ?_
    refine RunL.still rfl rfl rfl (Still.build_0 (.agg #[.slice none 0 0, .int .i64 0]) rfl (fun _ => by kernel_rfl)) ?_
    refine RunL.still rfl rfl rfl (Still.move rfl rfl) ?_
    refine RunL.does0 rfl rfl (Does.store rfl rfl rfl (i := 0) rfl Tryd.sizeOf24 rfl (rfl) rfl) (fun _ _ => ?_)
    refine RunL.still rfl rfl rfl (Still.assign rfl rfl) ?_
    refine RunL.nil ?_
    refine Ends.then ?_
    refine RunC.ret ?_
    refine Ends.then_ret ?_
    refine Ends.leave (.inl rfl) (fun _ _ ok => results2 Tryd.results20 (Holds.cell rfl (fun _ hs => load_cells (vs := [_, _]) Tryd.isAgg24 Tryd.sizeOf24 rfl (cells_nth (hs.at (i := 0) rfl) ⟨rfl, ⟨rfl, trivial⟩⟩))) (Holds.tmp rfl) ok) (fun w1 hs => ?_)
    exact Ret.intro () trivial rfl (HSub.nil _) hs
  · have h12 := of_decide_eq_false h12
    exact absurd hc h12

end Go.Proofs
