/- Reversal by the program, chapter 22. -/
import Derived.Test.YtbodmnijpdffaaaDoorPc
import Derived.Test.YtbodmnijpdffaaaDoorDm
import Derived.Test.YtbodmnijpdffaaaDoorProg
import Derived.KernelRfl
namespace Go.Proofs
open Go Go.V
set_option maxRecDepth 20000
theorem dg_reverse1 (x : Cr) (ib ob : Nat) (isv ofv : Value) (bs : List Bool) (os : List Int) (w : World) (hi : w.cell? ⟨ib, 0, none⟩ = some isv) (ho : w.cell? ⟨ob, 0, none⟩ = some ofv) (si : Shape isv bs.length) (so : Shape ofv os.length) (ci : Cells w (vaddr isv) (bools bs)) (co : Cells w (vaddr ofv) (ints os)) (hs : x.s = 1 ∨ x.s = -1) (h0 : 0 ≤ x.a0 ∧ x.a0 < os.length) (h1 : 0 ≤ x.a1 ∧ x.a1 < os.length) (hv : ∀ y ∈ os, 0 ≤ y ∧ y < bs.length) : Gives Tryd.prog 47 (#[crV x] ++ #[ptrV ib, ptrV ob]) w Nil (fun _ : Unit => True) (fun _ => crV (revB (bs.getD (os.getD x.a0.toNat 0).toNat false) (bs.getD (os.getD x.a1.toNat 0).toNat false) x)) (fun _ => []) := by
  obtain ⟨l0, e0⟩ := get_of_lt (l := os) (i := x.a0.toNat) (by omega)
  obtain ⟨l1, e1⟩ := get_of_lt (l := os) (i := x.a1.toNat) (by omega)
  have v0 := hv l0 (List.mem_of_getElem? e0)
  have v1 := hv l1 (List.mem_of_getElem? e1)
  obtain ⟨b0, f0⟩ := get_of_lt (l := bs) (i := l0.toNat) (by omega)
  obtain ⟨b1, f1⟩ := get_of_lt (l := bs) (i := l1.toNat) (by omega)
  rw [show bs.getD (os.getD x.a0.toNat 0).toNat false = b0 by simp [List.getD_eq_getElem?_getD, e0, f0], show bs.getD (os.getD x.a1.toNat 0).toNat false = b1 by simp [List.getD_eq_getElem?_getD, e1, f1]]
  refine fn_of_run (S := Nil) (args := [crV x, ptrV ib, ptrV ob]) (n := 38) (L := []) Tryd.func47 rfl Tryd.ntmps47 (Nat.le_of_ble_eq_true rfl) (Sym.nil _ _) ?_
  change RunC _ _ _ [(0, _), (1, _), (2, _)] _
  refine RunC.seq ?_
  refine RunC.region ?_
  refine RunL.grows rfl rfl rfl (Grows.box rfl rfl) (fun b3 _ => ?_)
  refine RunL.grows rfl rfl rfl (Grows.alloc rfl Tryd.zeroValue69) (fun b4 _ => ?_)
  refine RunL.nil ?_
  refine Ends.then ?_
  refine RunC.seq ?_
  refine RunC.draw 19 (.still 0 (.still 1 (.still 2 (.still 3 (.still 4 (.still 5 (.still 6 (.still 7 (.still 8 (.still 9 (.still 10 (.still 11 (.still 12 (.still 13 (.still 14 (.still 15 (.still 16 (.still 17 (.still 18 .done))))))))))))))))))) (by kernel_rfl) (by kernel_rfl) ?_
  refine RunG.still rfl rfl rfl rfl (Still.load (v := isv) rfl rfl Tryd.isAgg79 (fun _ hs => hs.base0 hi)) ?_
  refine RunG.still rfl rfl rfl rfl (Still.load (v := ofv) rfl rfl Tryd.isAgg28 (fun _ hs => hs.base0 ho)) ?_
  refine RunG.still rfl rfl rfl rfl (Still.fieldAddrL (off := 0) (off' := 0) rfl rfl Tryd.underlying69 rfl Tryd.sizeOf67 rfl) ?_
  refine RunG.still rfl rfl rfl rfl (Still.indexArrEL 0 rfl rfl rfl Tryd.underlying67 Tryd.sizeOf3 (rfl) (by omega)) ?_
  refine RunG.still rfl rfl rfl rfl (Still.load rfl rfl Tryd.isAgg3 (fun _ hs => cell_nth (hs.at (i := 1) rfl) rfl)) ?_
  refine RunG.still rfl rfl rfl rfl (Still.indexV x.a0.toNat rfl rfl rfl Tryd.underlying28 Tryd.sizeOf3 (so) (by omega) (by omega)) ?_
  refine RunG.still rfl rfl rfl rfl (Still.load rfl rfl Tryd.isAgg3 (fun _ hs => cells_at (Cells.base0 co hs) (ints_get e0))) ?_
  refine RunG.still rfl rfl rfl rfl (Still.indexV l0.toNat rfl rfl rfl Tryd.underlying79 Tryd.sizeOf4 (si) (by omega) (by omega)) ?_
  refine RunG.still rfl rfl rfl rfl (Still.load rfl rfl Tryd.isAgg4 (fun _ hs => cells_at (Cells.base0 ci hs) (bools_get f0))) ?_
  refine RunG.still rfl rfl rfl rfl (Still.load (v := isv) rfl rfl Tryd.isAgg79 (fun _ hs => hs.base0 hi)) ?_
  refine RunG.still rfl rfl rfl rfl (Still.load (v := ofv) rfl rfl Tryd.isAgg28 (fun _ hs => hs.base0 ho)) ?_
  refine RunG.still rfl rfl rfl rfl (Still.fieldAddrL (off := 0) (off' := 0) rfl rfl Tryd.underlying69 rfl Tryd.sizeOf67 rfl) ?_
  refine RunG.still rfl rfl rfl rfl (Still.indexArrEL 1 rfl rfl rfl Tryd.underlying67 Tryd.sizeOf3 (rfl) (by omega)) ?_
  refine RunG.still rfl rfl rfl rfl (Still.load rfl rfl Tryd.isAgg3 (fun _ hs => cell_nth (hs.at (i := 1) rfl) rfl)) ?_
  refine RunG.still rfl rfl rfl rfl (Still.indexV x.a1.toNat rfl rfl rfl Tryd.underlying28 Tryd.sizeOf3 (so) (by omega) (by omega)) ?_
  refine RunG.still rfl rfl rfl rfl (Still.load rfl rfl Tryd.isAgg3 (fun _ hs => cells_at (Cells.base0 co hs) (ints_get e1))) ?_
  refine RunG.still rfl rfl rfl rfl (Still.indexV l1.toNat rfl rfl rfl Tryd.underlying79 Tryd.sizeOf4 (si) (by omega) (by omega)) ?_
  refine RunG.still rfl rfl rfl rfl (Still.load rfl rfl Tryd.isAgg4 (fun _ hs => cells_at (Cells.base0 ci hs) (bools_get f1))) ?_
  refine RunG.still rfl rfl rfl rfl (Still.assign rfl rfl) ?_
  refine RunG.done ?_
  show RunL _ _ _ [_] _ _
  refine RunL.still rfl rfl rfl (Still.assign rfl rfl) ?_
  refine RunL.nil ?_
  refine Ends.then ?_
  refine RunC.seq ?_
  refine RunC.seq ?_
  refine RunC.region ?_
  refine RunL.still rfl rfl rfl (Still.move rfl rfl) ?_
  refine RunL.still rfl rfl rfl (Still.move rfl rfl) ?_
  refine RunL.still rfl rfl rfl (Still.neqB rfl rfl rfl Tryd.underlying4) ?_
  refine RunL.nil ?_
  refine Ends.then ?_
  refine RunC.cond rfl (fun h27 => ?_) (fun h27 => ?_)
  · skip
    refine RunC.region ?_
    refine RunL.still rfl rfl rfl (Still.fieldAddrL (off := 0) (off' := 4) rfl rfl Tryd.underlying69 rfl Tryd.sizeOf3 rfl) ?_
    refine RunL.still rfl rfl rfl (Still.load rfl rfl Tryd.isAgg3 (fun _ hs => cell_nth (hs.at (i := 1) rfl) rfl)) ?_
    refine RunL.still rfl rfl rfl (Still.neg rfl rfl (fits64 (by omega) (by omega))) ?_
    refine RunL.still rfl rfl rfl (Still.fieldAddrL (off := 0) (off' := 4) rfl rfl Tryd.underlying69 rfl Tryd.sizeOf3 rfl) ?_
    refine RunL.does0 rfl rfl (Does.store1 rfl rfl rfl (i := 1) rfl Tryd.sizeOf3 rfl (rfl)) (fun _ _ => ?_)
    refine RunL.conv (fun _ hs => hs.re 1 rfl (show _ = HL.obj b3 (.cells #[iv x.a0, iv x.a1, iv x.a2, iv x.a3, iv (-x.s)] 69 (0, 0)) from rfl)) ?_
    refine RunL.nil ?_
    refine Ends.then ?_
    refine RunC.seq ?_
    refine RunC.seq ?_
    refine RunC.region ?_
    refine RunL.still rfl rfl rfl (Still.move rfl rfl) ?_
    refine RunL.nil ?_
    refine Ends.then ?_
    refine RunC.cond rfl (fun h32 => ?_) (fun h32 => ?_)
    · skip
      refine RunC.region ?_
      refine RunL.still rfl rfl rfl (Still.fieldAddrL (off := 0) (off' := 0) rfl rfl Tryd.underlying69 rfl Tryd.sizeOf67 rfl) ?_
      refine RunL.still rfl rfl rfl (Still.loads rfl rfl Tryd.isAgg67 Tryd.sizeOf67 (vs := [_, _, _, _]) rfl (fun _ hs => cells_nth (hs.at (i := 1) rfl) ⟨rfl, ⟨rfl, ⟨rfl, ⟨rfl, trivial⟩⟩⟩⟩)) ?_
      refine RunL.grows rfl rfl rfl (Grows.call (vs := #[_, _]) rfl rfl Tryd.call45 (fun w hs => dg_turned_2 x.a0 x.a1 x.a2 x.a3 w)) (fun _ _ => ?_)
      refine RunL.still rfl rfl rfl (Still.fieldAddrL (off := 0) (off' := 0) rfl rfl Tryd.underlying69 rfl Tryd.sizeOf67 rfl) ?_
      refine RunL.does0 rfl rfl (Does.store rfl rfl rfl (i := 1) rfl Tryd.sizeOf67 rfl (rfl) rfl) (fun _ _ => ?_)
      refine RunL.nil ?_
      refine Ends.then ?_
      refine RunC.seq ?_
      refine RunC.region ?_
      refine RunL.still rfl rfl rfl (Still.loads rfl rfl Tryd.isAgg69 Tryd.sizeOf69 (vs := [_, _, _, _, _]) rfl (fun _ hs => cells_nth (hs.at (i := 1) rfl) ⟨rfl, ⟨rfl, ⟨rfl, ⟨rfl, ⟨rfl, trivial⟩⟩⟩⟩⟩)) ?_
      refine RunL.does0 rfl rfl (Does.store rfl rfl rfl (i := 0) rfl Tryd.sizeOf69 rfl (rfl) rfl) (fun _ _ => ?_)
      refine RunL.nil ?_
      refine Ends.then ?_
      refine RunC.ret ?_
      refine Ends.leave (.inl rfl) (fun _ _ ok => results1 Tryd.results47 (Holds.cell rfl (fun _ hs => load_cells (vs := [_, _, _, _, _]) Tryd.isAgg69 Tryd.sizeOf69 rfl (cells_nth (hs.at (i := 0) rfl) ⟨rfl, ⟨rfl, ⟨rfl, ⟨rfl, ⟨rfl, trivial⟩⟩⟩⟩⟩))) ok) (fun w1 hs => ?_)
      exact Ret.intro () trivial (by cases b0 <;> cases b1 <;> simp_all [revB]) (HSub.nil _) hs
    · skip
      refine RunC.skip ?_
      refine Ends.then ?_
      refine RunC.seq ?_
      refine RunC.region ?_
      refine RunL.still rfl rfl rfl (Still.loads rfl rfl Tryd.isAgg69 Tryd.sizeOf69 (vs := [_, _, _, _, _]) rfl (fun _ hs => cells_nth (hs.at (i := 1) rfl) ⟨rfl, ⟨rfl, ⟨rfl, ⟨rfl, ⟨rfl, trivial⟩⟩⟩⟩⟩)) ?_
      refine RunL.does0 rfl rfl (Does.store rfl rfl rfl (i := 0) rfl Tryd.sizeOf69 rfl (rfl) rfl) (fun _ _ => ?_)
      refine RunL.nil ?_
      refine Ends.then ?_
      refine RunC.ret ?_
      refine Ends.leave (.inl rfl) (fun _ _ ok => results1 Tryd.results47 (Holds.cell rfl (fun _ hs => load_cells (vs := [_, _, _, _, _]) Tryd.isAgg69 Tryd.sizeOf69 rfl (cells_nth (hs.at (i := 0) rfl) ⟨rfl, ⟨rfl, ⟨rfl, ⟨rfl, ⟨rfl, trivial⟩⟩⟩⟩⟩))) ok) (fun w2 hs => ?_)
      exact Ret.intro () trivial (by cases b0 <;> cases b1 <;> simp_all [revB]) (HSub.nil _) hs
  · skip
    refine RunC.skip ?_
    refine Ends.then ?_
    refine RunC.seq ?_
    refine RunC.seq ?_
    refine RunC.region ?_
    refine RunL.still rfl rfl rfl (Still.move rfl rfl) ?_
    refine RunL.nil ?_
    refine Ends.then ?_
    refine RunC.cond rfl (fun h32 => ?_) (fun h32 => ?_)
    · skip
      refine RunC.region ?_
      refine RunL.still rfl rfl rfl (Still.fieldAddrL (off := 0) (off' := 0) rfl rfl Tryd.underlying69 rfl Tryd.sizeOf67 rfl) ?_
      refine RunL.still rfl rfl rfl (Still.loads rfl rfl Tryd.isAgg67 Tryd.sizeOf67 (vs := [_, _, _, _]) rfl (fun _ hs => cells_nth (hs.at (i := 1) rfl) ⟨rfl, ⟨rfl, ⟨rfl, ⟨rfl, trivial⟩⟩⟩⟩)) ?_
      refine RunL.grows rfl rfl rfl (Grows.call (vs := #[_, _]) rfl rfl Tryd.call45 (fun w hs => dg_turned_2 x.a0 x.a1 x.a2 x.a3 w)) (fun _ _ => ?_)
      refine RunL.still rfl rfl rfl (Still.fieldAddrL (off := 0) (off' := 0) rfl rfl Tryd.underlying69 rfl Tryd.sizeOf67 rfl) ?_
      refine RunL.does0 rfl rfl (Does.store rfl rfl rfl (i := 1) rfl Tryd.sizeOf67 rfl (rfl) rfl) (fun _ _ => ?_)
      refine RunL.nil ?_
      refine Ends.then ?_
      refine RunC.seq ?_
      refine RunC.region ?_
      refine RunL.still rfl rfl rfl (Still.loads rfl rfl Tryd.isAgg69 Tryd.sizeOf69 (vs := [_, _, _, _, _]) rfl (fun _ hs => cells_nth (hs.at (i := 1) rfl) ⟨rfl, ⟨rfl, ⟨rfl, ⟨rfl, ⟨rfl, trivial⟩⟩⟩⟩⟩)) ?_
      refine RunL.does0 rfl rfl (Does.store rfl rfl rfl (i := 0) rfl Tryd.sizeOf69 rfl (rfl) rfl) (fun _ _ => ?_)
      refine RunL.nil ?_
      refine Ends.then ?_
      refine RunC.ret ?_
      refine Ends.leave (.inl rfl) (fun _ _ ok => results1 Tryd.results47 (Holds.cell rfl (fun _ hs => load_cells (vs := [_, _, _, _, _]) Tryd.isAgg69 Tryd.sizeOf69 rfl (cells_nth (hs.at (i := 0) rfl) ⟨rfl, ⟨rfl, ⟨rfl, ⟨rfl, ⟨rfl, trivial⟩⟩⟩⟩⟩))) ok) (fun w3 hs => ?_)
      exact Ret.intro () trivial (by cases b0 <;> cases b1 <;> simp_all [revB]) (HSub.nil _) hs
    · skip
      refine RunC.skip ?_
      refine Ends.then ?_
      refine RunC.seq ?_
      refine RunC.region ?_
      refine RunL.still rfl rfl rfl (Still.loads rfl rfl Tryd.isAgg69 Tryd.sizeOf69 (vs := [_, _, _, _, _]) rfl (fun _ hs => cells_nth (hs.at (i := 1) rfl) ⟨rfl, ⟨rfl, ⟨rfl, ⟨rfl, ⟨rfl, trivial⟩⟩⟩⟩⟩)) ?_
      refine RunL.does0 rfl rfl (Does.store rfl rfl rfl (i := 0) rfl Tryd.sizeOf69 rfl (rfl) rfl) (fun _ _ => ?_)
      refine RunL.nil ?_
      refine Ends.then ?_
      refine RunC.ret ?_
      refine Ends.leave (.inl rfl) (fun _ _ ok => results1 Tryd.results47 (Holds.cell rfl (fun _ hs => load_cells (vs := [_, _, _, _, _]) Tryd.isAgg69 Tryd.sizeOf69 rfl (cells_nth (hs.at (i := 0) rfl) ⟨rfl, ⟨rfl, ⟨rfl, ⟨rfl, ⟨rfl, trivial⟩⟩⟩⟩⟩))) ok) (fun w4 hs => ?_)
      exact Ret.intro () trivial (by cases b0 <;> cases b1 <;> simp_all [revB]) (HSub.nil _) hs

theorem dg_Reverse_bad (base : Option Addr) (A : Addr) (cap : Nat) (d : Dia) (lb : Option Addr) (lc : Nat) (xs : List Int) (w : World) (hd : DiaAt w base A d) (hc : checkI d ≠ 0) : Gives Tryd.prog 21 #[diaV base cap d, lisV lb lc xs] w Nil (fun _ : Unit => True) (fun _ => .tuple #[.agg #[.slice none 0 0, iv 0], iv (checkI d)]) (fun _ => []) := by
  refine fn_of_run (S := Nil) (args := [diaV base cap d, lisV lb lc xs]) (n := 63) (L := []) Tryd.func21 rfl Tryd.ntmps21 (Nat.le_of_ble_eq_true rfl) (Sym.nil _ _) ?_
  change RunC _ _ _ [(0, _), (1, _)] _
  refine RunC.seq ?_
  refine RunC.region ?_
  refine RunL.grows rfl rfl rfl (Grows.box rfl rfl) (fun b2 _ => ?_)
  refine RunL.grows rfl rfl rfl (Grows.alloc rfl Tryd.zeroValue24) (fun b4 _ => ?_)
  refine RunL.still rfl rfl rfl (Still.assign rfl rfl) ?_
  refine RunL.nil ?_
  refine Ends.then ?_
  refine RunC.seq ?_
  refine RunC.region ?_
  refine RunL.still rfl rfl rfl (Still.loads rfl rfl Tryd.isAgg24 Tryd.sizeOf24 (vs := [_, _]) rfl (fun _ hs => cells_nth (hs.at (i := 1) rfl) ⟨rfl, ⟨rfl, trivial⟩⟩)) ?_
  refine RunL.grows rfl rfl rfl (Grows.call (vs := #[_]) rfl rfl Tryd.call35 (fun w hs => dg_enter_bad base A cap d w (hd.sym hs) hc)) (fun _ _ => ?_)
  refine RunL.still rfl rfl rfl (Still.move rfl rfl) ?_
  refine RunL.still rfl rfl rfl (Still.extractN rfl rfl rfl) ?_
  refine RunL.still rfl rfl rfl (Still.extractN rfl rfl rfl) ?_
  refine RunL.still rfl rfl rfl (Still.assign rfl rfl) ?_
  refine RunL.still rfl rfl rfl (Still.assign rfl rfl) ?_
  refine RunL.nil ?_
  refine Ends.then ?_
  refine RunC.seq ?_
  refine RunC.seq ?_
  refine RunC.region ?_
  refine RunL.still rfl rfl rfl (Still.move rfl rfl) ?_
  refine RunL.still rfl rfl rfl (Still.neq rfl rfl rfl) ?_
  refine RunL.nil ?_
  refine Ends.then ?_
  refine RunC.cond rfl (fun h19 => ?_) (fun h19 => ?_)
  · have h19 := of_decide_eq_true h19
    refine RunC.seq ?_
    refine RunC.region ?_
    refine RunL.still rfl rfl rfl (Still.build_0 (.agg #[.slice none 0 0, .int .i64 0]) rfl (fun _ => by kernel_rfl)) ?_
    refine RunL.still rfl rfl rfl (Still.move rfl rfl) ?_
    refine RunL.does0 rfl rfl (Does.store rfl rfl rfl (i := 0) rfl Tryd.sizeOf24 rfl (rfl) rfl) (fun _ _ => ?_)
    refine RunL.still rfl rfl rfl (Still.assign rfl rfl) ?_
    refine RunL.nil ?_
    refine Ends.then ?_
    refine RunC.ret ?_
    refine Ends.then_ret ?_
    refine Ends.leave (.inl rfl) (fun _ _ ok => results2 Tryd.results21 (Holds.cell rfl (fun _ hs => load_cells (vs := [_, _]) Tryd.isAgg24 Tryd.sizeOf24 rfl (cells_nth (hs.at (i := 0) rfl) ⟨rfl, ⟨rfl, trivial⟩⟩))) (Holds.tmp rfl) ok) (fun w1 hs => ?_)
    exact Ret.intro () trivial rfl (HSub.nil _) hs
  · have h19 := of_decide_eq_false h19
    exact absurd hc h19

theorem dg_Reverse_ok (base : Option Addr) (A : Addr) (cap : Nat) (d : Dia) (lb : Option Addr) (LA : Addr) (lc : Nat) (xs : List Int) (w : World) (hd : DiaAt w base A d) (hxs : IntsAt w lb LA lc xs) (hxl : xs.length ≤ 9223372036854775807) (hc : checkI d = 0) (hD : distB xs ((compCount d : Int) + d.loops) = true) : Gives Tryd.prog 21 #[diaV base cap d, lisV lb lc xs] w Nil (fun q : Option Addr × Nat => OKB q (mapD (fun x => revB ((markB xs ((compCount d + d.loops.toNat)) xs.length).getD ((compOf d).getD x.a0.toNat 0).toNat false) ((markB xs ((compCount d + d.loops.toNat)) xs.length).getD ((compOf d).getD x.a1.toNat 0).toNat false) x) d).cross.length) (fun q => .tuple #[diaV q.1 q.2 (mapD (fun x => revB ((markB xs ((compCount d + d.loops.toNat)) xs.length).getD ((compOf d).getD x.a0.toNat 0).toNat false) ((markB xs ((compCount d + d.loops.toNat)) xs.length).getD ((compOf d).getD x.a1.toNat 0).toNat false) x) d), iv 0]) (fun q => [ownD q (mapD (fun x => revB ((markB xs ((compCount d + d.loops.toNat)) xs.length).getD ((compOf d).getD x.a0.toNat 0).toNat false) ((markB xs ((compCount d + d.loops.toNat)) xs.length).getD ((compOf d).getD x.a1.toNat 0).toNat false) x) d)]) := by
  obtain ⟨hS, hPl⟩ := checkI_ok.1 hc
  have h200 := hS.1
  have hlo := hS.2.1
  have hlo2 := hS.2.2.1
  have hcc := compTo_le (nextN d) (2 * d.cross.length) (2 * d.cross.length)
  rw [← compCount] at hcc
  have hcl := compOf_len d
  refine fn_of_run (S := Nil) (args := [diaV base cap d, lisV lb lc xs]) (n := 63) (L := []) Tryd.func21 rfl Tryd.ntmps21 (Nat.le_of_ble_eq_true rfl) (Sym.nil _ _) ?_
  change RunC _ _ _ [(0, _), (1, _)] _
  refine RunC.seq ?_
  refine RunC.region ?_
  refine RunL.grows rfl rfl rfl (Grows.box rfl rfl) (fun b2 _ => ?_)
  refine RunL.grows rfl rfl rfl (Grows.alloc rfl Tryd.zeroValue24) (fun b4 _ => ?_)
  refine RunL.still rfl rfl rfl (Still.assign rfl rfl) ?_
  refine RunL.nil ?_
  refine Ends.then ?_
  refine RunC.seq ?_
  refine RunC.region ?_
  refine RunL.still rfl rfl rfl (Still.loads rfl rfl Tryd.isAgg24 Tryd.sizeOf24 (vs := [_, _]) rfl (fun _ hs => cells_nth (hs.at (i := 1) rfl) ⟨rfl, ⟨rfl, trivial⟩⟩)) ?_
  refine RunL.grows rfl rfl rfl (Grows.call (vs := #[_]) rfl rfl Tryd.call35 (fun w hs => dg_enter_ok base A cap d w (hd.sym hs) hc)) (fun ⟨eb, av⟩ hav => ?_)
  refine RunL.still rfl rfl rfl (Still.move rfl rfl) ?_
  refine RunL.still rfl rfl rfl (Still.extractN rfl rfl rfl) ?_
  refine RunL.still rfl rfl rfl (Still.extractN rfl rfl rfl) ?_
  refine RunL.still rfl rfl rfl (Still.assign rfl rfl) ?_
  refine RunL.still rfl rfl rfl (Still.assign rfl rfl) ?_
  refine RunL.nil ?_
  refine Ends.then ?_
  refine RunC.seq ?_
  refine RunC.seq ?_
  refine RunC.region ?_
  refine RunL.still rfl rfl rfl (Still.move rfl rfl) ?_
  refine RunL.still rfl rfl rfl (Still.neq rfl rfl rfl) ?_
  refine RunL.nil ?_
  refine Ends.then ?_
  refine RunC.cond rfl (fun h19 => ?_) (fun h19 => ?_)
  · have h19 := of_decide_eq_true h19
    exact absurd rfl h19
  · have h19 := of_decide_eq_false h19
    refine RunC.skip ?_
    refine Ends.then ?_
    refine RunC.seq ?_
    refine RunC.region ?_
    refine RunL.still rfl rfl rfl (Still.move rfl rfl) ?_
    refine RunL.grows rfl rfl rfl (Grows.call (vs := #[_]) rfl rfl Tryd.call36 (fun w hs => dg_components eb base A cap d _ w (DgAt.of_own (hd.sym hs) (hs.at (i := 0) rfl) (hs.own (i := 1) rfl)) hS)) (fun ov hov => ?_)
    obtain ⟨vb0, vc0, hvv0, hvb0⟩ := hov
    subst hvv0
    refine RunL.still rfl rfl rfl (Still.move rfl rfl) ?_
    refine RunL.still rfl rfl rfl (Still.extractN rfl rfl rfl) ?_
    refine RunL.still rfl rfl rfl (Still.extractN rfl rfl rfl) ?_
    refine RunL.grows rfl rfl rfl (Grows.alloc rfl Tryd.zeroValue28) (fun b8 _ => ?_)
    refine RunL.does0 rfl rfl (Does.store1 rfl rfl rfl (i := 0) rfl Tryd.sizeOf28 rfl (rfl)) (fun _ _ => ?_)
    refine RunL.still rfl rfl rfl (Still.assign rfl rfl) ?_
    refine RunL.nil ?_
    refine Ends.then ?_
    refine RunC.seq ?_
    refine RunC.region ?_
    refine RunL.still rfl rfl rfl (Still.move rfl rfl) ?_
    refine RunL.still rfl rfl rfl (Still.move rfl rfl) ?_
    refine RunL.still rfl rfl rfl (Still.nilCheck rfl rfl) ?_
    refine RunL.still rfl rfl rfl (Still.fieldAddrL (off := 0) (off' := 0) rfl rfl Tryd.underlying65 rfl Tryd.sizeOf24 rfl) ?_
    refine RunL.still rfl rfl rfl (Still.fieldAddrL (off := 0) (off' := 1) rfl rfl Tryd.underlying24 rfl Tryd.sizeOf3 rfl) ?_
    refine RunL.still rfl rfl rfl (Still.load rfl rfl Tryd.isAgg3 (fun _ hs => cell_nth (hs.at (i := 2) rfl) rfl)) ?_
    refine RunL.still rfl rfl rfl (Still.add rfl rfl rfl (fits64 (by omega) (by omega))) ?_
    refine RunL.again (t := 33) (u := iv ((((compCount d + d.loops.toNat)) : Nat) : Int)) rfl (congrArg (Value.int .i64) (by omega)) ?_
    refine RunL.grows rfl rfl rfl (Grows.make (n := ((compCount d + d.loops.toNat))) (xs := (bools (List.replicate ((compCount d + d.loops.toNat)) false))) rfl rfl rfl Tryd.underlying79 (by kernel_rfl : (_ : Option _) = some (some (.bool false), 1, 1)) rfl (by omega) (by omega) (zeros_one _ _ |>.trans (bools_replicate _ _))) (fun b34 _ => ?_)
    refine RunL.grows rfl rfl rfl (Grows.alloc rfl Tryd.zeroValue79) (fun b10 _ => ?_)
    refine RunL.does0 rfl rfl (Does.store1 rfl rfl rfl (i := 0) rfl Tryd.sizeOf79 rfl (rfl)) (fun _ _ => ?_)
    refine RunL.nil ?_
    refine Ends.then ?_
    refine RunC.seq ?_
    refine RunC.seq ?_
    refine RunC.region ?_
    refine RunL.still rfl rfl rfl (Still.move rfl rfl) ?_
    refine RunL.still rfl rfl rfl (Still.lenV rfl rfl Tryd.underlying28 (hxs.shape)) ?_
    refine RunL.still rfl rfl rfl (Still.move rfl rfl) ?_
    refine RunL.nil ?_
    refine Ends.then ?_
    refine RunC.block ?_
    refine RunC.loop2 (γ := Nat) (keep := [(2, _), (4, _), (8, _), (10, _), (35, _), (36, _)]) (hkeep := [_, _, _, _, _, _, _]) (fun i => i ≤ xs.length ∧ (xs.take i).Nodup ∧ ∀ x ∈ xs.take i, 0 ≤ x ∧ x < ((compCount d : Int) + d.loops)) (fun i => xs.length - i) (fun i => [(37, iv i)]) (fun i => [HL.own 4 1 (.slice (some ⟨b34, 0, none⟩) ((compCount d + d.loops.toNat)) ((compCount d + d.loops.toNat))) ((compCount d + d.loops.toNat)) (bools (markB xs ((compCount d + d.loops.toNat)) i))]) 0 ⟨by omega, by simp, by simp⟩ (Fr.Sub.cons rfl (Fr.Sub.nil _)) (Fr.Sub.cons rfl (Fr.Sub.cons rfl (Fr.Sub.cons rfl (Fr.Sub.cons rfl (Fr.Sub.cons rfl (Fr.Sub.cons rfl (Fr.Sub.nil _))))))) (HSub.pick 1 (by rw [markB_zero]; rfl) (HSub.pick 0 rfl (HSub.pick 0 rfl (HSub.pick 0 rfl (HSub.pick 0 rfl (HSub.pick 0 rfl (HSub.pick 0 rfl (HSub.pick 0 rfl (HSub.nil _))))))))) ?_
    rintro i ⟨hi, hnd, hok⟩
    refine RunC.seq ?_
    refine RunC.region ?_
    refine RunL.still rfl rfl rfl (Still.lss rfl rfl rfl) ?_
    refine RunL.nil ?_
    refine Ends.then ?_
    refine RunC.seq ?_
    refine RunC.cond rfl (fun h38 => ?_) (fun h38 => ?_)
    · have h38 := of_decide_eq_true h38
      obtain ⟨y, hy⟩ := get_of_lt (l := xs) (i := i) (by omega)
      refine RunC.skip ?_
      refine Ends.then ?_
      refine RunC.seq ?_
      refine RunC.block ?_
      refine RunC.seq ?_
      refine RunC.region ?_
      refine RunL.still rfl rfl rfl (Still.indexV _ rfl rfl rfl Tryd.underlying28 Tryd.sizeOf3 (hxs.shape) (rfl) (by omega)) ?_
      refine RunL.still rfl rfl rfl (Still.load rfl rfl Tryd.isAgg3 (fun _ hs => cells_at (Cells.base0 (hxs.cells _) hs) (ints_get hy))) ?_
      refine RunL.still rfl rfl rfl (Still.assign rfl rfl) ?_
      refine RunL.nil ?_
      refine Ends.then ?_
      refine RunC.seq ?_
      refine RunC.seq ?_
      refine RunC.region ?_
      refine RunL.still rfl rfl rfl (Still.move rfl rfl) ?_
      refine RunL.still rfl rfl rfl (Still.lss rfl rfl rfl) ?_
      refine RunL.still rfl rfl rfl (Still.move rfl rfl) ?_
      refine RunL.split (t := 43) rfl (fun h43 => ?_) (fun h43 => ?_)
      · have h43 := of_decide_eq_true h43
        refine RunL.off rfl rfl rfl ?_
        refine RunL.off rfl rfl rfl ?_
        refine RunL.off rfl rfl rfl ?_
        refine RunL.off rfl rfl rfl ?_
        refine RunL.still rfl rfl rfl (Still.pickT rfl rfl rfl) ?_
        refine RunL.still rfl rfl rfl (Still.move rfl rfl) ?_
        have hyn : 0 ≤ y → ((y.toNat : Nat) : Int) = y := fun h => by omega
        refine RunL.off rfl rfl rfl ?_
        refine RunL.off rfl rfl rfl ?_
        refine RunL.off rfl rfl rfl ?_
        refine RunL.off rfl rfl rfl ?_
        refine RunL.still rfl rfl rfl (Still.pickT rfl rfl rfl) ?_
        refine RunL.nil ?_
        refine Ends.then ?_
        refine RunC.cond_true rfl ?_
        refine RunC.seq ?_
        refine RunC.region ?_
        refine RunL.still rfl rfl rfl (Still.build_0 (.agg #[.slice none 0 0, .int .i64 0]) rfl (fun _ => by kernel_rfl)) ?_
        refine RunL.does0 rfl rfl (Does.store rfl rfl rfl (i := 6) rfl Tryd.sizeOf24 rfl (rfl) rfl) (fun _ _ => ?_)
        refine RunL.still rfl rfl rfl (Still.assign rfl rfl) ?_
        refine RunL.nil ?_
        refine Ends.then ?_
        refine RunC.ret ?_
        refine Ends.then_ret ?_
        refine Ends.block_ret ?_
        refine Ends.then_ret ?_
        refine Ends.then_ret ?_
        refine Ends.block_ret ?_
        refine Ends.then_ret ?_
        refine Ends.leave (.inl rfl) (fun _ _ ok => results2 Tryd.results21 (Holds.cell rfl (fun _ hs => load_cells (vs := [_, _]) Tryd.isAgg24 Tryd.sizeOf24 rfl (cells_nth (hs.at (i := 6) rfl) ⟨rfl, ⟨rfl, trivial⟩⟩))) (Holds.tmp rfl) ok) (fun w1 hs => ?_)
        (exfalso; have h1 := of_decide_eq_true hD; have h2 := h1.2 y (List.mem_of_getElem? hy); first | omega | exact not_nodup hy (by rw [← hyn (by omega)]; simpa using h54) h1.1)
      · have h43 := of_decide_eq_false h43
        refine RunL.still rfl rfl rfl (Still.move rfl rfl) ?_
        refine RunL.still rfl rfl rfl (Still.load rfl rfl Tryd.isAgg79 (fun _ hs => cell_nth (hs.at (i := 1) rfl) rfl)) ?_
        refine RunL.still rfl rfl rfl (Still.lenOwn rfl rfl Tryd.underlying79 (fun _ hs => hs.own (i := 0) rfl)) ?_
        refine RunL.still rfl rfl rfl (Still.geq rfl rfl rfl) ?_
        refine RunL.still rfl rfl rfl (Still.pickF rfl rfl rfl) ?_
        refine RunL.still rfl rfl rfl (Still.move rfl rfl) ?_
        refine RunL.split (t := 49) rfl (fun h49 => ?_) (fun h49 => ?_)
        · have h49 := of_decide_eq_true h49
          have hyn : 0 ≤ y → ((y.toNat : Nat) : Int) = y := fun h => by omega
          refine RunL.off rfl rfl rfl ?_
          refine RunL.off rfl rfl rfl ?_
          refine RunL.off rfl rfl rfl ?_
          refine RunL.off rfl rfl rfl ?_
          refine RunL.still rfl rfl rfl (Still.pickT rfl rfl rfl) ?_
          refine RunL.nil ?_
          refine Ends.then ?_
          refine RunC.cond_true rfl ?_
          refine RunC.seq ?_
          refine RunC.region ?_
          refine RunL.still rfl rfl rfl (Still.build_0 (.agg #[.slice none 0 0, .int .i64 0]) rfl (fun _ => by kernel_rfl)) ?_
          refine RunL.does0 rfl rfl (Does.store rfl rfl rfl (i := 6) rfl Tryd.sizeOf24 rfl (rfl) rfl) (fun _ _ => ?_)
          refine RunL.still rfl rfl rfl (Still.assign rfl rfl) ?_
          refine RunL.nil ?_
          refine Ends.then ?_
          refine RunC.ret ?_
          refine Ends.then_ret ?_
          refine Ends.block_ret ?_
          refine Ends.then_ret ?_
          refine Ends.then_ret ?_
          refine Ends.block_ret ?_
          refine Ends.then_ret ?_
          refine Ends.leave (.inl rfl) (fun _ _ ok => results2 Tryd.results21 (Holds.cell rfl (fun _ hs => load_cells (vs := [_, _]) Tryd.isAgg24 Tryd.sizeOf24 rfl (cells_nth (hs.at (i := 6) rfl) ⟨rfl, ⟨rfl, trivial⟩⟩))) (Holds.tmp rfl) ok) (fun w2 hs => ?_)
          (exfalso; have h1 := of_decide_eq_true hD; have h2 := h1.2 y (List.mem_of_getElem? hy); first | omega | exact not_nodup hy (by rw [← hyn (by omega)]; simpa using h54) h1.1)
        · have h49 := of_decide_eq_false h49
          have hyn : 0 ≤ y → ((y.toNat : Nat) : Int) = y := fun h => by omega
          refine RunL.still rfl rfl rfl (Still.load rfl rfl Tryd.isAgg79 (fun _ hs => cell_nth (hs.at (i := 1) rfl) rfl)) ?_
          refine RunL.still rfl rfl rfl (Still.move rfl rfl) ?_
          refine RunL.still rfl rfl rfl (Still.indexOwnI (m := y.toNat) rfl rfl rfl Tryd.underlying79 Tryd.sizeOf4 (fun _ hs => hs.own (i := 0) rfl) (by omega) (by omega)) ?_
          refine RunL.still rfl rfl rfl (Still.load rfl rfl Tryd.isAgg4 (fun w hs => own_at (hs.own (i := 0) rfl) (bools_get (markB_get (by omega))))) ?_
          refine RunL.still rfl rfl rfl (Still.pickF rfl rfl rfl) ?_
          refine RunL.nil ?_
          refine Ends.then ?_
          refine RunC.cond rfl (fun h54 => ?_) (fun h54 => ?_)
          · skip
            refine RunC.seq ?_
            refine RunC.region ?_
            refine RunL.still rfl rfl rfl (Still.build_0 (.agg #[.slice none 0 0, .int .i64 0]) rfl (fun _ => by kernel_rfl)) ?_
            refine RunL.does0 rfl rfl (Does.store rfl rfl rfl (i := 6) rfl Tryd.sizeOf24 rfl (rfl) rfl) (fun _ _ => ?_)
            refine RunL.still rfl rfl rfl (Still.assign rfl rfl) ?_
            refine RunL.nil ?_
            refine Ends.then ?_
            refine RunC.ret ?_
            refine Ends.then_ret ?_
            refine Ends.block_ret ?_
            refine Ends.then_ret ?_
            refine Ends.then_ret ?_
            refine Ends.block_ret ?_
            refine Ends.then_ret ?_
            refine Ends.leave (.inl rfl) (fun _ _ ok => results2 Tryd.results21 (Holds.cell rfl (fun _ hs => load_cells (vs := [_, _]) Tryd.isAgg24 Tryd.sizeOf24 rfl (cells_nth (hs.at (i := 6) rfl) ⟨rfl, ⟨rfl, trivial⟩⟩))) (Holds.tmp rfl) ok) (fun w3 hs => ?_)
            (exfalso; have h1 := of_decide_eq_true hD; have h2 := h1.2 y (List.mem_of_getElem? hy); first | omega | exact not_nodup hy (by rw [← hyn (by omega)]; simpa using h54) h1.1)
          · skip
            refine RunC.skip ?_
            refine Ends.then ?_
            refine RunC.region ?_
            refine RunL.still rfl rfl rfl (Still.load rfl rfl Tryd.isAgg79 (fun _ hs => cell_nth (hs.at (i := 1) rfl) rfl)) ?_
            refine RunL.still rfl rfl rfl (Still.move rfl rfl) ?_
            refine RunL.still rfl rfl rfl (Still.indexOwnI (m := y.toNat) rfl rfl rfl Tryd.underlying79 Tryd.sizeOf4 (fun _ hs => hs.own (i := 0) rfl) (by omega) (by omega)) ?_
            refine RunL.does0 rfl rfl (Does.storeOwn1 (xs' := (bools (markB xs ((compCount d + d.loops.toNat)) (i + 1)))) rfl rfl rfl rfl (i := 0) rfl Tryd.sizeOf4 rfl (by simp [markB_len]; omega) ((bools_set _ _ _).trans (congrArg bools (markB_set (by rw [hyn (by omega)]; exact hy))))) (fun _ _ => ?_)
            refine RunL.nil ?_
            refine Ends.block ?_
            refine Ends.then ?_
            refine RunC.region ?_
            refine RunL.still rfl rfl rfl (Still.add rfl rfl rfl (fits64 (by omega) (by omega))) ?_
            refine RunL.still rfl rfl rfl (Still.move rfl rfl) ?_
            refine RunL.nil ?_
            refine Ends.again (i + 1) ?_ ?_ (Fr.Sub.app ?_ ?_) ?_
            · exact ⟨by omega, nodup_take_succ hy hnd (by rw [← hyn (by omega)]; simpa using h54), fun x hx2 => by rw [List.take_add_one, hy] at hx2; rcases List.mem_append.1 hx2 with hx2 | hx2; exact hok x hx2; rw [List.mem_singleton.1 hx2]; omega⟩
            · show _ < _; omega
            · exact Fr.Sub.cons rfl (Fr.Sub.nil _)
            · exact Fr.Sub.cons rfl (Fr.Sub.cons rfl (Fr.Sub.cons rfl (Fr.Sub.cons rfl (Fr.Sub.cons rfl (Fr.Sub.cons rfl (Fr.Sub.nil _))))))
            · exact HSub.pick 0 rfl (HSub.pick 0 rfl (HSub.pick 0 rfl (HSub.pick 0 rfl (HSub.pick 0 rfl (HSub.pick 0 rfl (HSub.pick 0 rfl (HSub.pick 0 rfl (HSub.nil _))))))))
    · have h38 := of_decide_eq_false h38
      obtain rfl : i = xs.length := by omega
      refine RunC.exit ?_
      refine Ends.then_exit ?_
      refine Ends.then_exit ?_
      refine Ends.block_exit ?_
      refine Ends.then ?_
      refine RunC.seq ?_
      refine RunC.region ?_
      refine RunL.still rfl rfl rfl (Still.loads rfl rfl Tryd.isAgg24 Tryd.sizeOf24 (vs := [_, _]) rfl (fun _ hs => cells_nth (hs.at (i := 7) rfl) ⟨rfl, ⟨rfl, trivial⟩⟩)) ?_
      refine RunL.still rfl rfl rfl (Still.makeFunc (vs := #[_, _]) rfl rfl) ?_
      refine RunL.grows rfl rfl rfl (Grows.call (vs := #[_, _]) rfl rfl Tryd.call43 (fun w hs => dg_copied base A cap d 47 #[ptrV b10, ptrV b8] _ w (hd.sym hs) h200 Tryd.call47 (fun x hx w1 ho => dg_reverse1 x b10 b8 _ _ (markB xs ((compCount d + d.loops.toNat)) xs.length) (compOf d) w1 (ho.cell (cell_nth (hs.at (i := 1) rfl) rfl) (fun x => x)) (ho.cell (cell_nth (hs.at (i := 2) rfl) rfl) (fun x => x)) (by rw [markB_len]; exact own_shape (hs.own (i := 0) rfl)) (by rw [hcl]; exact ⟨vb0, vc0, rfl, hvb0⟩) (fun j v hj => ho.cell (own_all (hs.own (i := 0) rfl) j v hj) (fun x => x)) (fun j v hj => ho.cell (own_all (hs.own (i := 3) rfl) j v hj) (fun x => x)) (hS.2.2.2.1 x hx).1 (by have h : 0 ≤ x.a0 ∧ x.a0 < 2 * (d.cross.length : Int) := (hS.2.2.2.1 x hx).2 0 (by omega); omega) (by have h : 0 ≤ x.a1 ∧ x.a1 < 2 * (d.cross.length : Int) := (hS.2.2.2.1 x hx).2 1 (by omega); omega) (fun y hy => by rw [markB_len]; exact comp_range hS hy (comp_nonneg hy))))) (fun q hq => ?_)
      refine RunL.does0 rfl rfl (Does.store rfl rfl rfl (i := 7) rfl Tryd.sizeOf24 rfl (rfl) rfl) (fun _ _ => ?_)
      refine RunL.still rfl rfl rfl (Still.assign rfl rfl) ?_
      refine RunL.nil ?_
      refine Ends.then ?_
      refine RunC.ret ?_
      refine Ends.leave (.inl rfl) (fun _ _ ok => results2 Tryd.results21 (Holds.cell rfl (fun _ hs => load_cells (vs := [_, _]) Tryd.isAgg24 Tryd.sizeOf24 rfl (cells_nth (hs.at (i := 7) rfl) ⟨rfl, ⟨rfl, trivial⟩⟩))) (Holds.tmp rfl) ok) (fun w4 hs => ?_)
      exact Ret.intro q hq rfl (HSub.pick 0 rfl (HSub.nil _)) hs

theorem dg_Reverse_arg (base : Option Addr) (A : Addr) (cap : Nat) (d : Dia) (lb : Option Addr) (LA : Addr) (lc : Nat) (xs : List Int) (w : World) (hd : DiaAt w base A d) (hxs : IntsAt w lb LA lc xs) (hxl : xs.length ≤ 9223372036854775807) (hc : checkI d = 0) (hD : distB xs ((compCount d : Int) + d.loops) = false) : Gives Tryd.prog 21 #[diaV base cap d, lisV lb lc xs] w Nil (fun _ : Unit => True) (fun _ => .tuple #[.agg #[.slice none 0 0, iv 0], iv 1]) (fun _ => []) := by
  obtain ⟨hS, hPl⟩ := checkI_ok.1 hc
  have h200 := hS.1
  have hlo := hS.2.1
  have hlo2 := hS.2.2.1
  have hcc := compTo_le (nextN d) (2 * d.cross.length) (2 * d.cross.length)
  rw [← compCount] at hcc
  have hcl := compOf_len d
  refine fn_of_run (S := Nil) (args := [diaV base cap d, lisV lb lc xs]) (n := 63) (L := []) Tryd.func21 rfl Tryd.ntmps21 (Nat.le_of_ble_eq_true rfl) (Sym.nil _ _) ?_
  change RunC _ _ _ [(0, _), (1, _)] _
  refine RunC.seq ?_
  refine RunC.region ?_
  refine RunL.grows rfl rfl rfl (Grows.box rfl rfl) (fun b2 _ => ?_)
  refine RunL.grows rfl rfl rfl (Grows.alloc rfl Tryd.zeroValue24) (fun b4 _ => ?_)
  refine RunL.still rfl rfl rfl (Still.assign rfl rfl) ?_
  refine RunL.nil ?_
  refine Ends.then ?_
  refine RunC.seq ?_
  refine RunC.region ?_
  refine RunL.still rfl rfl rfl (Still.loads rfl rfl Tryd.isAgg24 Tryd.sizeOf24 (vs := [_, _]) rfl (fun _ hs => cells_nth (hs.at (i := 1) rfl) ⟨rfl, ⟨rfl, trivial⟩⟩)) ?_
  refine RunL.grows rfl rfl rfl (Grows.call (vs := #[_]) rfl rfl Tryd.call35 (fun w hs => dg_enter_ok base A cap d w (hd.sym hs) hc)) (fun ⟨eb, av⟩ hav => ?_)
  refine RunL.still rfl rfl rfl (Still.move rfl rfl) ?_
  refine RunL.still rfl rfl rfl (Still.extractN rfl rfl rfl) ?_
  refine RunL.still rfl rfl rfl (Still.extractN rfl rfl rfl) ?_
  refine RunL.still rfl rfl rfl (Still.assign rfl rfl) ?_
  refine RunL.still rfl rfl rfl (Still.assign rfl rfl) ?_
  refine RunL.nil ?_
  refine Ends.then ?_
  refine RunC.seq ?_
  refine RunC.seq ?_
  refine RunC.region ?_
  refine RunL.still rfl rfl rfl (Still.move rfl rfl) ?_
  refine RunL.still rfl rfl rfl (Still.neq rfl rfl rfl) ?_
  refine RunL.nil ?_
  refine Ends.then ?_
  refine RunC.cond rfl (fun h19 => ?_) (fun h19 => ?_)
  · have h19 := of_decide_eq_true h19
    exact absurd rfl h19
  · have h19 := of_decide_eq_false h19
    refine RunC.skip ?_
    refine Ends.then ?_
    refine RunC.seq ?_
    refine RunC.region ?_
    refine RunL.still rfl rfl rfl (Still.move rfl rfl) ?_
    refine RunL.grows rfl rfl rfl (Grows.call (vs := #[_]) rfl rfl Tryd.call36 (fun w hs => dg_components eb base A cap d _ w (DgAt.of_own (hd.sym hs) (hs.at (i := 0) rfl) (hs.own (i := 1) rfl)) hS)) (fun ov hov => ?_)
    obtain ⟨vb0, vc0, hvv0, hvb0⟩ := hov
    subst hvv0
    refine RunL.still rfl rfl rfl (Still.move rfl rfl) ?_
    refine RunL.still rfl rfl rfl (Still.extractN rfl rfl rfl) ?_
    refine RunL.still rfl rfl rfl (Still.extractN rfl rfl rfl) ?_
    refine RunL.grows rfl rfl rfl (Grows.alloc rfl Tryd.zeroValue28) (fun b8 _ => ?_)
    refine RunL.does0 rfl rfl (Does.store1 rfl rfl rfl (i := 0) rfl Tryd.sizeOf28 rfl (rfl)) (fun _ _ => ?_)
    refine RunL.still rfl rfl rfl (Still.assign rfl rfl) ?_
    refine RunL.nil ?_
    refine Ends.then ?_
    refine RunC.seq ?_
    refine RunC.region ?_
    refine RunL.still rfl rfl rfl (Still.move rfl rfl) ?_
    refine RunL.still rfl rfl rfl (Still.move rfl rfl) ?_
    refine RunL.still rfl rfl rfl (Still.nilCheck rfl rfl) ?_
    refine RunL.still rfl rfl rfl (Still.fieldAddrL (off := 0) (off' := 0) rfl rfl Tryd.underlying65 rfl Tryd.sizeOf24 rfl) ?_
    refine RunL.still rfl rfl rfl (Still.fieldAddrL (off := 0) (off' := 1) rfl rfl Tryd.underlying24 rfl Tryd.sizeOf3 rfl) ?_
    refine RunL.still rfl rfl rfl (Still.load rfl rfl Tryd.isAgg3 (fun _ hs => cell_nth (hs.at (i := 2) rfl) rfl)) ?_
    refine RunL.still rfl rfl rfl (Still.add rfl rfl rfl (fits64 (by omega) (by omega))) ?_
    refine RunL.again (t := 33) (u := iv ((((compCount d + d.loops.toNat)) : Nat) : Int)) rfl (congrArg (Value.int .i64) (by omega)) ?_
    refine RunL.grows rfl rfl rfl (Grows.make (n := ((compCount d + d.loops.toNat))) (xs := (bools (List.replicate ((compCount d + d.loops.toNat)) false))) rfl rfl rfl Tryd.underlying79 (by kernel_rfl : (_ : Option _) = some (some (.bool false), 1, 1)) rfl (by omega) (by omega) (zeros_one _ _ |>.trans (bools_replicate _ _))) (fun b34 _ => ?_)
    refine RunL.grows rfl rfl rfl (Grows.alloc rfl Tryd.zeroValue79) (fun b10 _ => ?_)
    refine RunL.does0 rfl rfl (Does.store1 rfl rfl rfl (i := 0) rfl Tryd.sizeOf79 rfl (rfl)) (fun _ _ => ?_)
    refine RunL.nil ?_
    refine Ends.then ?_
    refine RunC.seq ?_
    refine RunC.seq ?_
    refine RunC.region ?_
    refine RunL.still rfl rfl rfl (Still.move rfl rfl) ?_
    refine RunL.still rfl rfl rfl (Still.lenV rfl rfl Tryd.underlying28 (hxs.shape)) ?_
    refine RunL.still rfl rfl rfl (Still.move rfl rfl) ?_
    refine RunL.nil ?_
    refine Ends.then ?_
    refine RunC.block ?_
    refine RunC.loop2 (γ := Nat) (keep := [(2, _), (4, _), (8, _), (10, _), (35, _), (36, _)]) (hkeep := [_, _, _, _, _, _, _]) (fun i => i ≤ xs.length ∧ (xs.take i).Nodup ∧ ∀ x ∈ xs.take i, 0 ≤ x ∧ x < ((compCount d : Int) + d.loops)) (fun i => xs.length - i) (fun i => [(37, iv i)]) (fun i => [HL.own 4 1 (.slice (some ⟨b34, 0, none⟩) ((compCount d + d.loops.toNat)) ((compCount d + d.loops.toNat))) ((compCount d + d.loops.toNat)) (bools (markB xs ((compCount d + d.loops.toNat)) i))]) 0 ⟨by omega, by simp, by simp⟩ (Fr.Sub.cons rfl (Fr.Sub.nil _)) (Fr.Sub.cons rfl (Fr.Sub.cons rfl (Fr.Sub.cons rfl (Fr.Sub.cons rfl (Fr.Sub.cons rfl (Fr.Sub.cons rfl (Fr.Sub.nil _))))))) (HSub.pick 1 (by rw [markB_zero]; rfl) (HSub.pick 0 rfl (HSub.pick 0 rfl (HSub.pick 0 rfl (HSub.pick 0 rfl (HSub.pick 0 rfl (HSub.pick 0 rfl (HSub.pick 0 rfl (HSub.nil _))))))))) ?_
    rintro i ⟨hi, hnd, hok⟩
    refine RunC.seq ?_
    refine RunC.region ?_
    refine RunL.still rfl rfl rfl (Still.lss rfl rfl rfl) ?_
    refine RunL.nil ?_
    refine Ends.then ?_
    refine RunC.seq ?_
    refine RunC.cond rfl (fun h38 => ?_) (fun h38 => ?_)
    · have h38 := of_decide_eq_true h38
      obtain ⟨y, hy⟩ := get_of_lt (l := xs) (i := i) (by omega)
      refine RunC.skip ?_
      refine Ends.then ?_
      refine RunC.seq ?_
      refine RunC.block ?_
      refine RunC.seq ?_
      refine RunC.region ?_
      refine RunL.still rfl rfl rfl (Still.indexV _ rfl rfl rfl Tryd.underlying28 Tryd.sizeOf3 (hxs.shape) (rfl) (by omega)) ?_
      refine RunL.still rfl rfl rfl (Still.load rfl rfl Tryd.isAgg3 (fun _ hs => cells_at (Cells.base0 (hxs.cells _) hs) (ints_get hy))) ?_
      refine RunL.still rfl rfl rfl (Still.assign rfl rfl) ?_
      refine RunL.nil ?_
      refine Ends.then ?_
      refine RunC.seq ?_
      refine RunC.seq ?_
      refine RunC.region ?_
      refine RunL.still rfl rfl rfl (Still.move rfl rfl) ?_
      refine RunL.still rfl rfl rfl (Still.lss rfl rfl rfl) ?_
      refine RunL.still rfl rfl rfl (Still.move rfl rfl) ?_
      refine RunL.split (t := 43) rfl (fun h43 => ?_) (fun h43 => ?_)
      · have h43 := of_decide_eq_true h43
        refine RunL.off rfl rfl rfl ?_
        refine RunL.off rfl rfl rfl ?_
        refine RunL.off rfl rfl rfl ?_
        refine RunL.off rfl rfl rfl ?_
        refine RunL.still rfl rfl rfl (Still.pickT rfl rfl rfl) ?_
        refine RunL.still rfl rfl rfl (Still.move rfl rfl) ?_
        have hyn : 0 ≤ y → ((y.toNat : Nat) : Int) = y := fun h => by omega
        refine RunL.off rfl rfl rfl ?_
        refine RunL.off rfl rfl rfl ?_
        refine RunL.off rfl rfl rfl ?_
        refine RunL.off rfl rfl rfl ?_
        refine RunL.still rfl rfl rfl (Still.pickT rfl rfl rfl) ?_
        refine RunL.nil ?_
        refine Ends.then ?_
        refine RunC.cond_true rfl ?_
        refine RunC.seq ?_
        refine RunC.region ?_
        refine RunL.still rfl rfl rfl (Still.build_0 (.agg #[.slice none 0 0, .int .i64 0]) rfl (fun _ => by kernel_rfl)) ?_
        refine RunL.does0 rfl rfl (Does.store rfl rfl rfl (i := 6) rfl Tryd.sizeOf24 rfl (rfl) rfl) (fun _ _ => ?_)
        refine RunL.still rfl rfl rfl (Still.assign rfl rfl) ?_
        refine RunL.nil ?_
        refine Ends.then ?_
        refine RunC.ret ?_
        refine Ends.then_ret ?_
        refine Ends.block_ret ?_
        refine Ends.then_ret ?_
        refine Ends.then_ret ?_
        refine Ends.block_ret ?_
        refine Ends.then_ret ?_
        refine Ends.leave (.inl rfl) (fun _ _ ok => results2 Tryd.results21 (Holds.cell rfl (fun _ hs => load_cells (vs := [_, _]) Tryd.isAgg24 Tryd.sizeOf24 rfl (cells_nth (hs.at (i := 6) rfl) ⟨rfl, ⟨rfl, trivial⟩⟩))) (Holds.tmp rfl) ok) (fun w1 hs => ?_)
        exact Ret.intro () trivial rfl (HSub.nil _) hs
      · have h43 := of_decide_eq_false h43
        refine RunL.still rfl rfl rfl (Still.move rfl rfl) ?_
        refine RunL.still rfl rfl rfl (Still.load rfl rfl Tryd.isAgg79 (fun _ hs => cell_nth (hs.at (i := 1) rfl) rfl)) ?_
        refine RunL.still rfl rfl rfl (Still.lenOwn rfl rfl Tryd.underlying79 (fun _ hs => hs.own (i := 0) rfl)) ?_
        refine RunL.still rfl rfl rfl (Still.geq rfl rfl rfl) ?_
        refine RunL.still rfl rfl rfl (Still.pickF rfl rfl rfl) ?_
        refine RunL.still rfl rfl rfl (Still.move rfl rfl) ?_
        refine RunL.split (t := 49) rfl (fun h49 => ?_) (fun h49 => ?_)
        · have h49 := of_decide_eq_true h49
          have hyn : 0 ≤ y → ((y.toNat : Nat) : Int) = y := fun h => by omega
          refine RunL.off rfl rfl rfl ?_
          refine RunL.off rfl rfl rfl ?_
          refine RunL.off rfl rfl rfl ?_
          refine RunL.off rfl rfl rfl ?_
          refine RunL.still rfl rfl rfl (Still.pickT rfl rfl rfl) ?_
          refine RunL.nil ?_
          refine Ends.then ?_
          refine RunC.cond_true rfl ?_
          refine RunC.seq ?_
          refine RunC.region ?_
          refine RunL.still rfl rfl rfl (Still.build_0 (.agg #[.slice none 0 0, .int .i64 0]) rfl (fun _ => by kernel_rfl)) ?_
          refine RunL.does0 rfl rfl (Does.store rfl rfl rfl (i := 6) rfl Tryd.sizeOf24 rfl (rfl) rfl) (fun _ _ => ?_)
          refine RunL.still rfl rfl rfl (Still.assign rfl rfl) ?_
          refine RunL.nil ?_
          refine Ends.then ?_
          refine RunC.ret ?_
          refine Ends.then_ret ?_
          refine Ends.block_ret ?_
          refine Ends.then_ret ?_
          refine Ends.then_ret ?_
          refine Ends.block_ret ?_
          refine Ends.then_ret ?_
          refine Ends.leave (.inl rfl) (fun _ _ ok => results2 Tryd.results21 (Holds.cell rfl (fun _ hs => load_cells (vs := [_, _]) Tryd.isAgg24 Tryd.sizeOf24 rfl (cells_nth (hs.at (i := 6) rfl) ⟨rfl, ⟨rfl, trivial⟩⟩))) (Holds.tmp rfl) ok) (fun w2 hs => ?_)
          exact Ret.intro () trivial rfl (HSub.nil _) hs
        · have h49 := of_decide_eq_false h49
          have hyn : 0 ≤ y → ((y.toNat : Nat) : Int) = y := fun h => by omega
          refine RunL.still rfl rfl rfl (Still.load rfl rfl Tryd.isAgg79 (fun _ hs => cell_nth (hs.at (i := 1) rfl) rfl)) ?_
          refine RunL.still rfl rfl rfl (Still.move rfl rfl) ?_
          refine RunL.still rfl rfl rfl (Still.indexOwnI (m := y.toNat) rfl rfl rfl Tryd.underlying79 Tryd.sizeOf4 (fun _ hs => hs.own (i := 0) rfl) (by omega) (by omega)) ?_
          refine RunL.still rfl rfl rfl (Still.load rfl rfl Tryd.isAgg4 (fun w hs => own_at (hs.own (i := 0) rfl) (bools_get (markB_get (by omega))))) ?_
          refine RunL.still rfl rfl rfl (Still.pickF rfl rfl rfl) ?_
          refine RunL.nil ?_
          refine Ends.then ?_
          refine RunC.cond rfl (fun h54 => ?_) (fun h54 => ?_)
          · skip
            refine RunC.seq ?_
            refine RunC.region ?_
            refine RunL.still rfl rfl rfl (Still.build_0 (.agg #[.slice none 0 0, .int .i64 0]) rfl (fun _ => by kernel_rfl)) ?_
            refine RunL.does0 rfl rfl (Does.store rfl rfl rfl (i := 6) rfl Tryd.sizeOf24 rfl (rfl) rfl) (fun _ _ => ?_)
            refine RunL.still rfl rfl rfl (Still.assign rfl rfl) ?_
            refine RunL.nil ?_
            refine Ends.then ?_
            refine RunC.ret ?_
            refine Ends.then_ret ?_
            refine Ends.block_ret ?_
            refine Ends.then_ret ?_
            refine Ends.then_ret ?_
            refine Ends.block_ret ?_
            refine Ends.then_ret ?_
            refine Ends.leave (.inl rfl) (fun _ _ ok => results2 Tryd.results21 (Holds.cell rfl (fun _ hs => load_cells (vs := [_, _]) Tryd.isAgg24 Tryd.sizeOf24 rfl (cells_nth (hs.at (i := 6) rfl) ⟨rfl, ⟨rfl, trivial⟩⟩))) (Holds.tmp rfl) ok) (fun w3 hs => ?_)
            exact Ret.intro () trivial rfl (HSub.nil _) hs
          · skip
            refine RunC.skip ?_
            refine Ends.then ?_
            refine RunC.region ?_
            refine RunL.still rfl rfl rfl (Still.load rfl rfl Tryd.isAgg79 (fun _ hs => cell_nth (hs.at (i := 1) rfl) rfl)) ?_
            refine RunL.still rfl rfl rfl (Still.move rfl rfl) ?_
            refine RunL.still rfl rfl rfl (Still.indexOwnI (m := y.toNat) rfl rfl rfl Tryd.underlying79 Tryd.sizeOf4 (fun _ hs => hs.own (i := 0) rfl) (by omega) (by omega)) ?_
            refine RunL.does0 rfl rfl (Does.storeOwn1 (xs' := (bools (markB xs ((compCount d + d.loops.toNat)) (i + 1)))) rfl rfl rfl rfl (i := 0) rfl Tryd.sizeOf4 rfl (by simp [markB_len]; omega) ((bools_set _ _ _).trans (congrArg bools (markB_set (by rw [hyn (by omega)]; exact hy))))) (fun _ _ => ?_)
            refine RunL.nil ?_
            refine Ends.block ?_
            refine Ends.then ?_
            refine RunC.region ?_
            refine RunL.still rfl rfl rfl (Still.add rfl rfl rfl (fits64 (by omega) (by omega))) ?_
            refine RunL.still rfl rfl rfl (Still.move rfl rfl) ?_
            refine RunL.nil ?_
            refine Ends.again (i + 1) ?_ ?_ (Fr.Sub.app ?_ ?_) ?_
            · exact ⟨by omega, nodup_take_succ hy hnd (by rw [← hyn (by omega)]; simpa using h54), fun x hx2 => by rw [List.take_add_one, hy] at hx2; rcases List.mem_append.1 hx2 with hx2 | hx2; exact hok x hx2; rw [List.mem_singleton.1 hx2]; omega⟩
            · show _ < _; omega
            · exact Fr.Sub.cons rfl (Fr.Sub.nil _)
            · exact Fr.Sub.cons rfl (Fr.Sub.cons rfl (Fr.Sub.cons rfl (Fr.Sub.cons rfl (Fr.Sub.cons rfl (Fr.Sub.cons rfl (Fr.Sub.nil _))))))
            · exact HSub.pick 0 rfl (HSub.pick 0 rfl (HSub.pick 0 rfl (HSub.pick 0 rfl (HSub.pick 0 rfl (HSub.pick 0 rfl (HSub.pick 0 rfl (HSub.pick 0 rfl (HSub.nil _))))))))
    · have h38 := of_decide_eq_false h38
      obtain rfl : i = xs.length := by omega
      refine RunC.exit ?_
      refine Ends.then_exit ?_
      refine Ends.then_exit ?_
      refine Ends.block_exit ?_
      refine Ends.then ?_
      refine RunC.seq ?_
      refine RunC.region ?_
      refine RunL.still rfl rfl rfl (Still.loads rfl rfl Tryd.isAgg24 Tryd.sizeOf24 (vs := [_, _]) rfl (fun _ hs => cells_nth (hs.at (i := 7) rfl) ⟨rfl, ⟨rfl, trivial⟩⟩)) ?_
      refine RunL.still rfl rfl rfl (Still.makeFunc (vs := #[_, _]) rfl rfl) ?_
      refine RunL.grows rfl rfl rfl (Grows.call (vs := #[_, _]) rfl rfl Tryd.call43 (fun w hs => dg_copied base A cap d 47 #[ptrV b10, ptrV b8] _ w (hd.sym hs) h200 Tryd.call47 (fun x hx w1 ho => dg_reverse1 x b10 b8 _ _ (markB xs ((compCount d + d.loops.toNat)) xs.length) (compOf d) w1 (ho.cell (cell_nth (hs.at (i := 1) rfl) rfl) (fun x => x)) (ho.cell (cell_nth (hs.at (i := 2) rfl) rfl) (fun x => x)) (by rw [markB_len]; exact own_shape (hs.own (i := 0) rfl)) (by rw [hcl]; exact ⟨vb0, vc0, rfl, hvb0⟩) (fun j v hj => ho.cell (own_all (hs.own (i := 0) rfl) j v hj) (fun x => x)) (fun j v hj => ho.cell (own_all (hs.own (i := 3) rfl) j v hj) (fun x => x)) (hS.2.2.2.1 x hx).1 (by have h : 0 ≤ x.a0 ∧ x.a0 < 2 * (d.cross.length : Int) := (hS.2.2.2.1 x hx).2 0 (by omega); omega) (by have h : 0 ≤ x.a1 ∧ x.a1 < 2 * (d.cross.length : Int) := (hS.2.2.2.1 x hx).2 1 (by omega); omega) (fun y hy => by rw [markB_len]; exact comp_range hS hy (comp_nonneg hy))))) (fun q hq => ?_)
      refine RunL.does0 rfl rfl (Does.store rfl rfl rfl (i := 7) rfl Tryd.sizeOf24 rfl (rfl) rfl) (fun _ _ => ?_)
      refine RunL.still rfl rfl rfl (Still.assign rfl rfl) ?_
      refine RunL.nil ?_
      refine Ends.then ?_
      refine RunC.ret ?_
      refine Ends.leave (.inl rfl) (fun _ _ ok => results2 Tryd.results21 (Holds.cell rfl (fun _ hs => load_cells (vs := [_, _]) Tryd.isAgg24 Tryd.sizeOf24 rfl (cells_nth (hs.at (i := 7) rfl) ⟨rfl, ⟨rfl, trivial⟩⟩))) (Holds.tmp rfl) ok) (fun w4 hs => ?_)
      (exfalso; exact absurd (decide_eq_true (show xs.Nodup ∧ ∀ x ∈ xs, 0 ≤ x ∧ x < (compCount d : Int) + d.loops by rw [List.take_of_length_le (by omega)] at hnd hok; exact ⟨hnd, hok⟩)) (by rw [← distB, hD]; decide))

end Go.Proofs
