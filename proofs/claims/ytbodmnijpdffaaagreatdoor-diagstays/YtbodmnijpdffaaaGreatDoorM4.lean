/- Reversal by the program, chapter 22. -/
import Derived.Test.YtbodmnijpdffaaaGreatDoorM2
import Derived.Test.YtbodmnijpdffaaaGreatDoorM0
import Derived.Test.YtbodmnijpdffaaaGreatDoorProg
import Derived.KernelRfl
import Derived.Test.YtbodmnijpdffaaaGreatDoorM3
import Derived.Test.YtbodmnijpdffaaaGreatDoorM1
import Derived.Lib.SplitLaws
namespace Go.Proofs
open Go Go.V
set_option maxRecDepth 20000
theorem dg_reverse1 (x : Cr) (ib ob : Nat) (isv ofv : Value) (bs : List Bool) (os : List Int) (w : World) (hi : w.cell? ⟨ib, 0, none⟩ = some isv) (ho : w.cell? ⟨ob, 0, none⟩ = some ofv) (si : Shape isv bs.length) (so : Shape ofv os.length) (ci : Cells w (vaddr isv) (bools bs)) (co : Cells w (vaddr ofv) (ints os)) (hs : x.s = 1 ∨ x.s = -1) (h0 : 0 ≤ x.a0 ∧ x.a0 < os.length) (h1 : 0 ≤ x.a1 ∧ x.a1 < os.length) (hv : ∀ y ∈ os, 0 ≤ y ∧ y < bs.length) : Gives Tryz.prog 63 (#[crV x] ++ #[ptrV ib, ptrV ob]) w Nil (fun _ : Unit => True) (fun _ => crV (revB (bs.getD (os.getD x.a0.toNat 0).toNat false) (bs.getD (os.getD x.a1.toNat 0).toNat false) x)) (fun _ => []) := by
  obtain ⟨l0, e0⟩ := get_of_lt (l := os) (i := x.a0.toNat) (by omega)
  obtain ⟨l1, e1⟩ := get_of_lt (l := os) (i := x.a1.toNat) (by omega)
  have v0 := hv l0 (List.mem_of_getElem? e0)
  have v1 := hv l1 (List.mem_of_getElem? e1)
  obtain ⟨b0, f0⟩ := get_of_lt (l := bs) (i := l0.toNat) (by omega)
  obtain ⟨b1, f1⟩ := get_of_lt (l := bs) (i := l1.toNat) (by omega)
  rw [show bs.getD (os.getD x.a0.toNat 0).toNat false = b0 by simp [List.getD_eq_getElem?_getD, e0, f0], show bs.getD (os.getD x.a1.toNat 0).toNat false = b1 by simp [List.getD_eq_getElem?_getD, e1, f1]]
  refine fn_of_run (S := Nil) (args := [crV x, ptrV ib, ptrV ob]) (n := 38) (L := []) Tryz.func63 rfl Tryz.ntmps63 (Nat.le_of_ble_eq_true rfl) (Sym.nil _ _) ?_
  change RunC _ _ _ [(0, _), (1, _), (2, _)] _
  refine RunC.seq ?_
  refine RunC.region ?_
  refine RunL.grows rfl rfl rfl (Grows.box rfl rfl) (fun b3 _ => ?_)
  refine RunL.grows rfl rfl rfl (Grows.alloc rfl Tryz.zeroValue62) (fun b4 _ => ?_)
  refine RunL.nil ?_
  refine Ends.then ?_
  refine RunC.seq ?_
  refine RunC.draw 19 (.still 0 (.still 1 (.still 2 (.still 3 (.still 4 (.still 5 (.still 6 (.still 7 (.still 8 (.still 9 (.still 10 (.still 11 (.still 12 (.still 13 (.still 14 (.still 15 (.still 16 (.still 17 (.still 18 .done))))))))))))))))))) (by kernel_rfl) (by kernel_rfl) ?_
  refine RunG.still rfl rfl rfl rfl (Still.load (v := isv) rfl rfl Tryz.isAgg102 (fun _ hs => hs.base0 hi)) ?_
  refine RunG.still rfl rfl rfl rfl (Still.load (v := ofv) rfl rfl Tryz.isAgg36 (fun _ hs => hs.base0 ho)) ?_
  refine RunG.still rfl rfl rfl rfl (Still.fieldAddrL (off := 0) (off' := 0) rfl rfl Tryz.underlying62 rfl Tryz.sizeOf60 rfl) ?_
  refine RunG.still rfl rfl rfl rfl (Still.indexArrEL 0 rfl rfl rfl Tryz.underlying60 Tryz.sizeOf3 (rfl) (by omega)) ?_
  refine RunG.still rfl rfl rfl rfl (Still.load rfl rfl Tryz.isAgg3 (fun _ hs => cell_nth (hs.at (i := 1) rfl) rfl)) ?_
  refine RunG.still rfl rfl rfl rfl (Still.indexV x.a0.toNat rfl rfl rfl Tryz.underlying36 Tryz.sizeOf3 (so) (by omega) (by omega)) ?_
  refine RunG.still rfl rfl rfl rfl (Still.load rfl rfl Tryz.isAgg3 (fun _ hs => cells_at (Cells.base0 co hs) (ints_get e0))) ?_
  refine RunG.still rfl rfl rfl rfl (Still.indexV l0.toNat rfl rfl rfl Tryz.underlying102 Tryz.sizeOf4 (si) (by omega) (by omega)) ?_
  refine RunG.still rfl rfl rfl rfl (Still.load rfl rfl Tryz.isAgg4 (fun _ hs => cells_at (Cells.base0 ci hs) (bools_get f0))) ?_
  refine RunG.still rfl rfl rfl rfl (Still.load (v := isv) rfl rfl Tryz.isAgg102 (fun _ hs => hs.base0 hi)) ?_
  refine RunG.still rfl rfl rfl rfl (Still.load (v := ofv) rfl rfl Tryz.isAgg36 (fun _ hs => hs.base0 ho)) ?_
  refine RunG.still rfl rfl rfl rfl (Still.fieldAddrL (off := 0) (off' := 0) rfl rfl Tryz.underlying62 rfl Tryz.sizeOf60 rfl) ?_
  refine RunG.still rfl rfl rfl rfl (Still.indexArrEL 1 rfl rfl rfl Tryz.underlying60 Tryz.sizeOf3 (rfl) (by omega)) ?_
  refine RunG.still rfl rfl rfl rfl (Still.load rfl rfl Tryz.isAgg3 (fun _ hs => cell_nth (hs.at (i := 1) rfl) rfl)) ?_
  refine RunG.still rfl rfl rfl rfl (Still.indexV x.a1.toNat rfl rfl rfl Tryz.underlying36 Tryz.sizeOf3 (so) (by omega) (by omega)) ?_
  refine RunG.still rfl rfl rfl rfl (Still.load rfl rfl Tryz.isAgg3 (fun _ hs => cells_at (Cells.base0 co hs) (ints_get e1))) ?_
  refine RunG.still rfl rfl rfl rfl (Still.indexV l1.toNat rfl rfl rfl Tryz.underlying102 Tryz.sizeOf4 (si) (by omega) (by omega)) ?_
  refine RunG.still rfl rfl rfl rfl (Still.load rfl rfl Tryz.isAgg4 (fun _ hs => cells_at (Cells.base0 ci hs) (bools_get f1))) ?_
  refine RunG.still rfl rfl rfl rfl (Still.assign rfl rfl) ?_
  refine RunG.done ?_
  show RunL _ _ _ [_] _ _
  refine RunL.still rfl rfl rfl (Still.assign rfl rfl) ?_
  refine RunL.nil ?_
  refine Ends.then ?_
  refine RunC.seq ?_
  refine RunC.seq ?_
  refine RunC.region ?_
  refine RunL.still rfl rfl rfl (Still.move rfl rfl) ?_
  refine RunL.still rfl rfl rfl (Still.move rfl rfl) ?_
  refine RunL.still rfl rfl rfl (Still.neqB rfl rfl rfl Tryz.underlying4) ?_
  refine RunL.nil ?_
  refine Ends.then ?_
  refine RunC.cond rfl (fun h27 => ?_) (fun h27 => ?_)
  · skip
    refine RunC.region ?_
    refine RunL.still rfl rfl rfl (Still.fieldAddrL (off := 0) (off' := 4) rfl rfl Tryz.underlying62 rfl Tryz.sizeOf3 rfl) ?_
    refine RunL.still rfl rfl rfl (Still.load rfl rfl Tryz.isAgg3 (fun _ hs => cell_nth (hs.at (i := 1) rfl) rfl)) ?_
    refine RunL.still rfl rfl rfl (Still.neg rfl rfl (fits64 (by omega) (by omega))) ?_
    refine RunL.still rfl rfl rfl (Still.fieldAddrL (off := 0) (off' := 4) rfl rfl Tryz.underlying62 rfl Tryz.sizeOf3 rfl) ?_
    refine RunL.does0 rfl rfl (Does.store1 rfl rfl rfl (i := 1) rfl Tryz.sizeOf3 rfl (rfl)) (fun _ _ => ?_)
    refine RunL.conv (fun _ hs => hs.re 1 rfl (show _ = HL.obj b3 (.cells #[iv x.a0, iv x.a1, iv x.a2, iv x.a3, iv (-x.s)] 62 (0, 0)) from rfl)) ?_
    refine RunL.nil ?_
    refine Ends.then ?_
    refine RunC.seq ?_
    refine RunC.seq ?_
    refine RunC.region ?_
    refine RunL.still rfl rfl rfl (Still.move rfl rfl) ?_
    refine RunL.nil ?_
    refine Ends.then ?_
    refine RunC.cond rfl (fun h32 => ?_) (fun h32 => ?_)
    · skip
      refine RunC.region ?_
      refine RunL.still rfl rfl rfl (Still.fieldAddrL (off := 0) (off' := 0) rfl rfl Tryz.underlying62 rfl Tryz.sizeOf60 rfl) ?_
      refine RunL.still rfl rfl rfl (Still.loads rfl rfl Tryz.isAgg60 Tryz.sizeOf60 (vs := [_, _, _, _]) rfl (fun _ hs => cells_nth (hs.at (i := 1) rfl) ⟨rfl, ⟨rfl, ⟨rfl, ⟨rfl, trivial⟩⟩⟩⟩)) ?_
      refine RunL.grows rfl rfl rfl (Grows.call (vs := #[_, _]) rfl rfl Tryz.call61 (fun w hs => dg_turned_2 x.a0 x.a1 x.a2 x.a3 w)) (fun _ _ => ?_)
      refine RunL.still rfl rfl rfl (Still.fieldAddrL (off := 0) (off' := 0) rfl rfl Tryz.underlying62 rfl Tryz.sizeOf60 rfl) ?_
      refine RunL.does0 rfl rfl (Does.store rfl rfl rfl (i := 1) rfl Tryz.sizeOf60 rfl (rfl) rfl) (fun _ _ => ?_)
      refine RunL.nil ?_
      refine Ends.then ?_
      refine RunC.seq ?_
      refine RunC.region ?_
      refine RunL.still rfl rfl rfl (Still.loads rfl rfl Tryz.isAgg62 Tryz.sizeOf62 (vs := [_, _, _, _, _]) rfl (fun _ hs => cells_nth (hs.at (i := 1) rfl) ⟨rfl, ⟨rfl, ⟨rfl, ⟨rfl, ⟨rfl, trivial⟩⟩⟩⟩⟩)) ?_
      refine RunL.does0 rfl rfl (Does.store rfl rfl rfl (i := 0) rfl Tryz.sizeOf62 rfl (rfl) rfl) (fun _ _ => ?_)
      refine RunL.nil ?_
      refine Ends.then ?_
      refine RunC.ret ?_
      refine Ends.leave (.inl rfl) (fun _ _ ok => results1 Tryz.results63 (Holds.cell rfl (fun _ hs => load_cells (vs := [_, _, _, _, _]) Tryz.isAgg62 Tryz.sizeOf62 rfl (cells_nth (hs.at (i := 0) rfl) ⟨rfl, ⟨rfl, ⟨rfl, ⟨rfl, ⟨rfl, trivial⟩⟩⟩⟩⟩))) ok) (fun w1 hs => ?_)
      exact Ret.intro () trivial (by cases b0 <;> cases b1 <;> simp_all [revB]) (HSub.nil _) hs
    · skip
      refine RunC.skip ?_
      refine Ends.then ?_
      refine RunC.seq ?_
      refine RunC.region ?_
      refine RunL.still rfl rfl rfl (Still.loads rfl rfl Tryz.isAgg62 Tryz.sizeOf62 (vs := [_, _, _, _, _]) rfl (fun _ hs => cells_nth (hs.at (i := 1) rfl) ⟨rfl, ⟨rfl, ⟨rfl, ⟨rfl, ⟨rfl, trivial⟩⟩⟩⟩⟩)) ?_
      refine RunL.does0 rfl rfl (Does.store rfl rfl rfl (i := 0) rfl Tryz.sizeOf62 rfl (rfl) rfl) (fun _ _ => ?_)
      refine RunL.nil ?_
      refine Ends.then ?_
      refine RunC.ret ?_
      refine Ends.leave (.inl rfl) (fun _ _ ok => results1 Tryz.results63 (Holds.cell rfl (fun _ hs => load_cells (vs := [_, _, _, _, _]) Tryz.isAgg62 Tryz.sizeOf62 rfl (cells_nth (hs.at (i := 0) rfl) ⟨rfl, ⟨rfl, ⟨rfl, ⟨rfl, ⟨rfl, trivial⟩⟩⟩⟩⟩))) ok) (fun w2 hs => ?_)
      exact Ret.intro () trivial (by cases b0 <;> cases b1 <;> simp_all [revB]) (HSub.nil _) hs
  · skip
    refine RunC.skip ?_
    refine Ends.then ?_
    refine RunC.seq ?_
    refine RunC.seq ?_
    refine RunC.region ?_
    refine RunL.still rfl rfl rfl (Still.move rfl rfl) ?_
    refine RunL.nil ?_
    refine Ends.then ?_
    refine RunC.cond rfl (fun h32 => ?_) (fun h32 => ?_)
    · skip
      refine RunC.region ?_
      refine RunL.still rfl rfl rfl (Still.fieldAddrL (off := 0) (off' := 0) rfl rfl Tryz.underlying62 rfl Tryz.sizeOf60 rfl) ?_
      refine RunL.still rfl rfl rfl (Still.loads rfl rfl Tryz.isAgg60 Tryz.sizeOf60 (vs := [_, _, _, _]) rfl (fun _ hs => cells_nth (hs.at (i := 1) rfl) ⟨rfl, ⟨rfl, ⟨rfl, ⟨rfl, trivial⟩⟩⟩⟩)) ?_
      refine RunL.grows rfl rfl rfl (Grows.call (vs := #[_, _]) rfl rfl Tryz.call61 (fun w hs => dg_turned_2 x.a0 x.a1 x.a2 x.a3 w)) (fun _ _ => ?_)
      refine RunL.still rfl rfl rfl (Still.fieldAddrL (off := 0) (off' := 0) rfl rfl Tryz.underlying62 rfl Tryz.sizeOf60 rfl) ?_
      refine RunL.does0 rfl rfl (Does.store rfl rfl rfl (i := 1) rfl Tryz.sizeOf60 rfl (rfl) rfl) (fun _ _ => ?_)
      refine RunL.nil ?_
      refine Ends.then ?_
      refine RunC.seq ?_
      refine RunC.region ?_
      refine RunL.still rfl rfl rfl (Still.loads rfl rfl Tryz.isAgg62 Tryz.sizeOf62 (vs := [_, _, _, _, _]) rfl (fun _ hs => cells_nth (hs.at (i := 1) rfl) ⟨rfl, ⟨rfl, ⟨rfl, ⟨rfl, ⟨rfl, trivial⟩⟩⟩⟩⟩)) ?_
      refine RunL.does0 rfl rfl (Does.store rfl rfl rfl (i := 0) rfl Tryz.sizeOf62 rfl (rfl) rfl) (fun _ _ => ?_)
      refine RunL.nil ?_
      refine Ends.then ?_
      refine RunC.ret ?_
      refine Ends.leave (.inl rfl) (fun _ _ ok => results1 Tryz.results63 (Holds.cell rfl (fun _ hs => load_cells (vs := [_, _, _, _, _]) Tryz.isAgg62 Tryz.sizeOf62 rfl (cells_nth (hs.at (i := 0) rfl) ⟨rfl, ⟨rfl, ⟨rfl, ⟨rfl, ⟨rfl, trivial⟩⟩⟩⟩⟩))) ok) (fun w3 hs => ?_)
      exact Ret.intro () trivial (by cases b0 <;> cases b1 <;> simp_all [revB]) (HSub.nil _) hs
    · skip
      refine RunC.skip ?_
      refine Ends.then ?_
      refine RunC.seq ?_
      refine RunC.region ?_
      refine RunL.still rfl rfl rfl (Still.loads rfl rfl Tryz.isAgg62 Tryz.sizeOf62 (vs := [_, _, _, _, _]) rfl (fun _ hs => cells_nth (hs.at (i := 1) rfl) ⟨rfl, ⟨rfl, ⟨rfl, ⟨rfl, ⟨rfl, trivial⟩⟩⟩⟩⟩)) ?_
      refine RunL.does0 rfl rfl (Does.store rfl rfl rfl (i := 0) rfl Tryz.sizeOf62 rfl (rfl) rfl) (fun _ _ => ?_)
      refine RunL.nil ?_
      refine Ends.then ?_
      refine RunC.ret ?_
      refine Ends.leave (.inl rfl) (fun _ _ ok => results1 Tryz.results63 (Holds.cell rfl (fun _ hs => load_cells (vs := [_, _, _, _, _]) Tryz.isAgg62 Tryz.sizeOf62 rfl (cells_nth (hs.at (i := 0) rfl) ⟨rfl, ⟨rfl, ⟨rfl, ⟨rfl, ⟨rfl, trivial⟩⟩⟩⟩⟩))) ok) (fun w4 hs => ?_)
      exact Ret.intro () trivial (by cases b0 <;> cases b1 <;> simp_all [revB]) (HSub.nil _) hs

theorem dg_Reverse_bad (base : Option Addr) (A : Addr) (cap : Nat) (d : Dia) (lb : Option Addr) (lc : Nat) (xs : List Int) (w : World) (hd : DiaAt w base A d) (hc : checkI d ≠ 0) : Gives Tryz.prog 27 #[diaV base cap d, lisV lb lc xs] w Nil (fun _ : Unit => True) (fun _ => .tuple #[.agg #[.slice none 0 0, iv 0], iv (checkI d)]) (fun _ => []) := by
  refine fn_of_run (S := Nil) (args := [diaV base cap d, lisV lb lc xs]) (n := 63) (L := []) Tryz.func27 rfl Tryz.ntmps27 (Nat.le_of_ble_eq_true rfl) (Sym.nil _ _) ?_
  change RunC _ _ _ [(0, _), (1, _)] _
  refine RunC.seq ?_
  refine RunC.region ?_
  refine RunL.grows rfl rfl rfl (Grows.box rfl rfl) (fun b2 _ => ?_)
  refine RunL.grows rfl rfl rfl (Grows.alloc rfl Tryz.zeroValue24) (fun b4 _ => ?_)
  refine RunL.still rfl rfl rfl (Still.assign rfl rfl) ?_
  refine RunL.nil ?_
  refine Ends.then ?_
  refine RunC.seq ?_
  refine RunC.region ?_
  refine RunL.still rfl rfl rfl (Still.loads rfl rfl Tryz.isAgg24 Tryz.sizeOf24 (vs := [_, _]) rfl (fun _ hs => cells_nth (hs.at (i := 1) rfl) ⟨rfl, ⟨rfl, trivial⟩⟩)) ?_
  refine RunL.grows rfl rfl rfl (Grows.call (vs := #[_]) rfl rfl Tryz.call31 (fun w hs => dg_enter_bad base A cap d w (hd.sym hs) hc)) (fun _ _ => ?_)
  refine RunL.still rfl rfl rfl (Still.move rfl rfl) ?_
  refine RunL.still rfl rfl rfl (Still.extractN rfl rfl rfl) ?_
  refine RunL.still rfl rfl rfl (Still.extractN rfl rfl rfl) ?_
  refine RunL.still rfl rfl rfl (Still.assign rfl rfl) ?_
  refine RunL.still rfl rfl rfl (Still.assign rfl rfl) ?_
  refine RunL.nil ?_
  refine Ends.then ?_
  refine RunC.seq ?_
  refine RunC.seq ?_
  refine RunC.region ?_
  refine RunL.still rfl rfl rfl (Still.move rfl rfl) ?_
  refine RunL.still rfl rfl rfl (Still.neq rfl rfl rfl) ?_
  refine RunL.nil ?_
  refine Ends.then ?_
  refine RunC.cond rfl (fun h19 => ?_) (fun h19 => ?_)
  · have h19 := of_decide_eq_true h19
    refine RunC.seq ?_
    refine RunC.region ?_
    refine RunL.still rfl rfl rfl (Still.build_0 (.agg #[.slice none 0 0, .int .i64 0]) rfl (fun _ => by kernel_rfl)) ?_
    refine RunL.still rfl rfl rfl (Still.move rfl rfl) ?_
    refine RunL.does0 rfl rfl (Does.store rfl rfl rfl (i := 0) rfl Tryz.sizeOf24 rfl (rfl) rfl) (fun _ _ => ?_)
    refine RunL.still rfl rfl rfl (Still.assign rfl rfl) ?_
    refine RunL.nil ?_
    refine Ends.then ?_
    refine RunC.ret ?_
    refine Ends.then_ret ?_
    refine Ends.leave (.inl rfl) (fun _ _ ok => results2 Tryz.results27 (Holds.cell rfl (fun _ hs => load_cells (vs := [_, _]) Tryz.isAgg24 Tryz.sizeOf24 rfl (cells_nth (hs.at (i := 0) rfl) ⟨rfl, ⟨rfl, trivial⟩⟩))) (Holds.tmp rfl) ok) (fun w1 hs => ?_)
    exact Ret.intro () trivial rfl (HSub.nil _) hs
  · have h19 := of_decide_eq_false h19
    exact absurd hc h19

theorem dg_Reverse_ok (base : Option Addr) (A : Addr) (cap : Nat) (d : Dia) (lb : Option Addr) (LA : Addr) (lc : Nat) (xs : List Int) (w : World) (hd : DiaAt w base A d) (hxs : IntsAt w lb LA lc xs) (hxl : xs.length ≤ 9223372036854775807) (hc : checkI d = 0) (hD : distB xs ((compCount d : Int) + d.loops) = true) : Gives Tryz.prog 27 #[diaV base cap d, lisV lb lc xs] w Nil (fun q : Option Addr × Nat => OKB q (mapD (fun x => revB ((markB xs ((compCount d + d.loops.toNat)) xs.length).getD ((compOf d).getD x.a0.toNat 0).toNat false) ((markB xs ((compCount d + d.loops.toNat)) xs.length).getD ((compOf d).getD x.a1.toNat 0).toNat false) x) d).cross.length) (fun q => .tuple #[diaV q.1 q.2 (mapD (fun x => revB ((markB xs ((compCount d + d.loops.toNat)) xs.length).getD ((compOf d).getD x.a0.toNat 0).toNat false) ((markB xs ((compCount d + d.loops.toNat)) xs.length).getD ((compOf d).getD x.a1.toNat 0).toNat false) x) d), iv 0]) (fun q => [ownD q (mapD (fun x => revB ((markB xs ((compCount d + d.loops.toNat)) xs.length).getD ((compOf d).getD x.a0.toNat 0).toNat false) ((markB xs ((compCount d + d.loops.toNat)) xs.length).getD ((compOf d).getD x.a1.toNat 0).toNat false) x) d)]) := by
  obtain ⟨hS, hPl⟩ := checkI_ok.1 hc
  have h200 := hS.1
  have hlo := hS.2.1
  have hlo2 := hS.2.2.1
  have hcc := compTo_le (nextN d) (2 * d.cross.length) (2 * d.cross.length)
  rw [← compCount] at hcc
  have hcl := compOf_len d
  refine fn_of_run (S := Nil) (args := [diaV base cap d, lisV lb lc xs]) (n := 63) (L := []) Tryz.func27 rfl Tryz.ntmps27 (Nat.le_of_ble_eq_true rfl) (Sym.nil _ _) ?_
  change RunC _ _ _ [(0, _), (1, _)] _
  refine RunC.seq ?_
  refine RunC.region ?_
  refine RunL.grows rfl rfl rfl (Grows.box rfl rfl) (fun b2 _ => ?_)
  refine RunL.grows rfl rfl rfl (Grows.alloc rfl Tryz.zeroValue24) (fun b4 _ => ?_)
  refine RunL.still rfl rfl rfl (Still.assign rfl rfl) ?_
  refine RunL.nil ?_
  refine Ends.then ?_
  refine RunC.seq ?_
  refine RunC.region ?_
  refine RunL.still rfl rfl rfl (Still.loads rfl rfl Tryz.isAgg24 Tryz.sizeOf24 (vs := [_, _]) rfl (fun _ hs => cells_nth (hs.at (i := 1) rfl) ⟨rfl, ⟨rfl, trivial⟩⟩)) ?_
  refine RunL.grows rfl rfl rfl (Grows.call (vs := #[_]) rfl rfl Tryz.call31 (fun w hs => dg_enter_ok base A cap d w (hd.sym hs) hc)) (fun ⟨eb, av⟩ hav => ?_)
  refine RunL.still rfl rfl rfl (Still.move rfl rfl) ?_
  refine RunL.still rfl rfl rfl (Still.extractN rfl rfl rfl) ?_
  refine RunL.still rfl rfl rfl (Still.extractN rfl rfl rfl) ?_
  refine RunL.still rfl rfl rfl (Still.assign rfl rfl) ?_
  refine RunL.still rfl rfl rfl (Still.assign rfl rfl) ?_
  refine RunL.nil ?_
  refine Ends.then ?_
  refine RunC.seq ?_
  refine RunC.seq ?_
  refine RunC.region ?_
  refine RunL.still rfl rfl rfl (Still.move rfl rfl) ?_
  refine RunL.still rfl rfl rfl (Still.neq rfl rfl rfl) ?_
  refine RunL.nil ?_
  refine Ends.then ?_
  refine RunC.cond rfl (fun h19 => ?_) (fun h19 => ?_)
  · have h19 := of_decide_eq_true h19
    exact absurd rfl h19
  · have h19 := of_decide_eq_false h19
    refine RunC.skip ?_
    refine Ends.then ?_
    refine RunC.seq ?_
    refine RunC.region ?_
    refine RunL.still rfl rfl rfl (Still.move rfl rfl) ?_
    refine RunL.grows rfl rfl rfl (Grows.call (vs := #[_]) rfl rfl Tryz.call57 (fun w hs => dg_components eb base A cap d _ w (DgAt.of_own (hd.sym hs) (hs.at (i := 0) rfl) (hs.own (i := 1) rfl)) hS)) (fun ov hov => ?_)
    obtain ⟨vb0, vc0, hvv0, hvb0⟩ := hov
    subst hvv0
    refine RunL.still rfl rfl rfl (Still.move rfl rfl) ?_
    refine RunL.still rfl rfl rfl (Still.extractN rfl rfl rfl) ?_
    refine RunL.still rfl rfl rfl (Still.extractN rfl rfl rfl) ?_
    refine RunL.grows rfl rfl rfl (Grows.alloc rfl Tryz.zeroValue36) (fun b8 _ => ?_)
    refine RunL.does0 rfl rfl (Does.store1 rfl rfl rfl (i := 0) rfl Tryz.sizeOf36 rfl (rfl)) (fun _ _ => ?_)
    refine RunL.still rfl rfl rfl (Still.assign rfl rfl) ?_
    refine RunL.nil ?_
    refine Ends.then ?_
    refine RunC.seq ?_
    refine RunC.region ?_
    refine RunL.still rfl rfl rfl (Still.move rfl rfl) ?_
    refine RunL.still rfl rfl rfl (Still.move rfl rfl) ?_
    refine RunL.still rfl rfl rfl (Still.nilCheck rfl rfl) ?_
    refine RunL.still rfl rfl rfl (Still.fieldAddrL (off := 0) (off' := 0) rfl rfl Tryz.underlying89 rfl Tryz.sizeOf24 rfl) ?_
    refine RunL.still rfl rfl rfl (Still.fieldAddrL (off := 0) (off' := 1) rfl rfl Tryz.underlying24 rfl Tryz.sizeOf3 rfl) ?_
    refine RunL.still rfl rfl rfl (Still.load rfl rfl Tryz.isAgg3 (fun _ hs => cell_nth (hs.at (i := 2) rfl) rfl)) ?_
    refine RunL.still rfl rfl rfl (Still.add rfl rfl rfl (fits64 (by omega) (by omega))) ?_
    refine RunL.again (t := 33) (u := iv ((((compCount d + d.loops.toNat)) : Nat) : Int)) rfl (congrArg (Value.int .i64) (by omega)) ?_
    refine RunL.grows rfl rfl rfl (Grows.make (n := ((compCount d + d.loops.toNat))) (xs := (bools (List.replicate ((compCount d + d.loops.toNat)) false))) rfl rfl rfl Tryz.underlying102 (by kernel_rfl : (_ : Option _) = some (some (.bool false), 1, 1)) rfl (by omega) (by omega) (zeros_one _ _ |>.trans (bools_replicate _ _))) (fun b34 _ => ?_)
    refine RunL.grows rfl rfl rfl (Grows.alloc rfl Tryz.zeroValue102) (fun b10 _ => ?_)
    refine RunL.does0 rfl rfl (Does.store1 rfl rfl rfl (i := 0) rfl Tryz.sizeOf102 rfl (rfl)) (fun _ _ => ?_)
    refine RunL.nil ?_
    refine Ends.then ?_
    refine RunC.seq ?_
    refine RunC.seq ?_
    refine RunC.region ?_
    refine RunL.still rfl rfl rfl (Still.move rfl rfl) ?_
    refine RunL.still rfl rfl rfl (Still.lenV rfl rfl Tryz.underlying36 (hxs.shape)) ?_
    refine RunL.still rfl rfl rfl (Still.move rfl rfl) ?_
    refine RunL.nil ?_
    refine Ends.then ?_
    refine RunC.block ?_
    refine RunC.loop2 (γ := Nat) (keep := [(2, _), (4, _), (8, _), (10, _), (35, _), (36, _)]) (hkeep := [_, _, _, _, _, _, _]) (fun i => i ≤ xs.length ∧ (xs.take i).Nodup ∧ ∀ x ∈ xs.take i, 0 ≤ x ∧ x < ((compCount d : Int) + d.loops)) (fun i => xs.length - i) (fun i => [(37, iv i)]) (fun i => [HL.own 4 1 (.slice (some ⟨b34, 0, none⟩) ((compCount d + d.loops.toNat)) ((compCount d + d.loops.toNat))) ((compCount d + d.loops.toNat)) (bools (markB xs ((compCount d + d.loops.toNat)) i))]) 0 ⟨by omega, by simp, by simp⟩ (Fr.Sub.cons rfl (Fr.Sub.nil _)) (Fr.Sub.cons rfl (Fr.Sub.cons rfl (Fr.Sub.cons rfl (Fr.Sub.cons rfl (Fr.Sub.cons rfl (Fr.Sub.cons rfl (Fr.Sub.nil _))))))) (HSub.pick 1 (by rw [markB_zero]; rfl) (HSub.pick 0 rfl (HSub.pick 0 rfl (HSub.pick 0 rfl (HSub.pick 0 rfl (HSub.pick 0 rfl (HSub.pick 0 rfl (HSub.pick 0 rfl (HSub.nil _))))))))) ?_
    rintro i ⟨hi, hnd, hok⟩
    refine RunC.seq ?_
    refine RunC.region ?_
    refine RunL.still rfl rfl rfl (Still.lss rfl rfl rfl) ?_
    refine RunL.nil ?_
    refine Ends.then ?_
    refine RunC.seq ?_
    refine RunC.cond rfl (fun h38 => ?_) (fun h38 => ?_)
    · have h38 := of_decide_eq_true h38
      obtain ⟨y, hy⟩ := get_of_lt (l := xs) (i := i) (by omega)
      refine RunC.skip ?_
      refine Ends.then ?_
      refine RunC.seq ?_
      refine RunC.block ?_
      refine RunC.seq ?_
      refine RunC.region ?_
      refine RunL.still rfl rfl rfl (Still.indexV _ rfl rfl rfl Tryz.underlying36 Tryz.sizeOf3 (hxs.shape) (rfl) (by omega)) ?_
      refine RunL.still rfl rfl rfl (Still.load rfl rfl Tryz.isAgg3 (fun _ hs => cells_at (Cells.base0 (hxs.cells _) hs) (ints_get hy))) ?_
      refine RunL.still rfl rfl rfl (Still.assign rfl rfl) ?_
      refine RunL.nil ?_
      refine Ends.then ?_
      refine RunC.seq ?_
      refine RunC.seq ?_
      refine RunC.region ?_
      refine RunL.still rfl rfl rfl (Still.move rfl rfl) ?_
      refine RunL.still rfl rfl rfl (Still.lss rfl rfl rfl) ?_
      refine RunL.still rfl rfl rfl (Still.move rfl rfl) ?_
      refine RunL.split (t := 43) rfl (fun h43 => ?_) (fun h43 => ?_)
      · have h43 := of_decide_eq_true h43
        refine RunL.off rfl rfl rfl ?_
        refine RunL.off rfl rfl rfl ?_
        refine RunL.off rfl rfl rfl ?_
        refine RunL.off rfl rfl rfl ?_
        refine RunL.still rfl rfl rfl (Still.pickT rfl rfl rfl) ?_
        refine RunL.still rfl rfl rfl (Still.move rfl rfl) ?_
        have hyn : 0 ≤ y → ((y.toNat : Nat) : Int) = y := fun h => by omega
        refine RunL.off rfl rfl rfl ?_
        refine RunL.off rfl rfl rfl ?_
        refine RunL.off rfl rfl rfl ?_
        refine RunL.off rfl rfl rfl ?_
        refine RunL.still rfl rfl rfl (Still.pickT rfl rfl rfl) ?_
        refine RunL.nil ?_
        refine Ends.then ?_
        refine RunC.cond_true rfl ?_
        refine RunC.seq ?_
        refine RunC.region ?_
        refine RunL.still rfl rfl rfl (Still.build_0 (.agg #[.slice none 0 0, .int .i64 0]) rfl (fun _ => by kernel_rfl)) ?_
        refine RunL.does0 rfl rfl (Does.store rfl rfl rfl (i := 6) rfl Tryz.sizeOf24 rfl (rfl) rfl) (fun _ _ => ?_)
        refine RunL.still rfl rfl rfl (Still.assign rfl rfl) ?_
        refine RunL.nil ?_
        refine Ends.then ?_
        refine RunC.ret ?_
        refine Ends.then_ret ?_
        refine Ends.block_ret ?_
        refine Ends.then_ret ?_
        refine Ends.then_ret ?_
        refine Ends.block_ret ?_
        refine Ends.then_ret ?_
        refine Ends.leave (.inl rfl) (fun _ _ ok => results2 Tryz.results27 (Holds.cell rfl (fun _ hs => load_cells (vs := [_, _]) Tryz.isAgg24 Tryz.sizeOf24 rfl (cells_nth (hs.at (i := 6) rfl) ⟨rfl, ⟨rfl, trivial⟩⟩))) (Holds.tmp rfl) ok) (fun w1 hs => ?_)
        (exfalso; have h1 := of_decide_eq_true hD; have h2 := h1.2 y (List.mem_of_getElem? hy); first | omega | exact not_nodup hy (by rw [← hyn (by omega)]; simpa using h54) h1.1)
      · have h43 := of_decide_eq_false h43
        refine RunL.still rfl rfl rfl (Still.move rfl rfl) ?_
        refine RunL.still rfl rfl rfl (Still.load rfl rfl Tryz.isAgg102 (fun _ hs => cell_nth (hs.at (i := 1) rfl) rfl)) ?_
        refine RunL.still rfl rfl rfl (Still.lenOwn rfl rfl Tryz.underlying102 (fun _ hs => hs.own (i := 0) rfl)) ?_
        refine RunL.still rfl rfl rfl (Still.geq rfl rfl rfl) ?_
        refine RunL.still rfl rfl rfl (Still.pickF rfl rfl rfl) ?_
        refine RunL.still rfl rfl rfl (Still.move rfl rfl) ?_
        refine RunL.split (t := 49) rfl (fun h49 => ?_) (fun h49 => ?_)
        · have h49 := of_decide_eq_true h49
          have hyn : 0 ≤ y → ((y.toNat : Nat) : Int) = y := fun h => by omega
          refine RunL.off rfl rfl rfl ?_
          refine RunL.off rfl rfl rfl ?_
          refine RunL.off rfl rfl rfl ?_
          refine RunL.off rfl rfl rfl ?_
          refine RunL.still rfl rfl rfl (Still.pickT rfl rfl rfl) ?_
          refine RunL.nil ?_
          refine Ends.then ?_
          refine RunC.cond_true rfl ?_
          refine RunC.seq ?_
          refine RunC.region ?_
          refine RunL.still rfl rfl rfl (Still.build_0 (.agg #[.slice none 0 0, .int .i64 0]) rfl (fun _ => by kernel_rfl)) ?_
          refine RunL.does0 rfl rfl (Does.store rfl rfl rfl (i := 6) rfl Tryz.sizeOf24 rfl (rfl) rfl) (fun _ _ => ?_)
          refine RunL.still rfl rfl rfl (Still.assign rfl rfl) ?_
          refine RunL.nil ?_
          refine Ends.then ?_
          refine RunC.ret ?_
          refine Ends.then_ret ?_
          refine Ends.block_ret ?_
          refine Ends.then_ret ?_
          refine Ends.then_ret ?_
          refine Ends.block_ret ?_
          refine Ends.then_ret ?_
          refine Ends.leave (.inl rfl) (fun _ _ ok => results2 Tryz.results27 (Holds.cell rfl (fun _ hs => load_cells (vs := [_, _]) Tryz.isAgg24 Tryz.sizeOf24 rfl (cells_nth (hs.at (i := 6) rfl) ⟨rfl, ⟨rfl, trivial⟩⟩))) (Holds.tmp rfl) ok) (fun w2 hs => ?_)
          (exfalso; have h1 := of_decide_eq_true hD; have h2 := h1.2 y (List.mem_of_getElem? hy); first | omega | exact not_nodup hy (by rw [← hyn (by omega)]; simpa using h54) h1.1)
        · have h49 := of_decide_eq_false h49
          have hyn : 0 ≤ y → ((y.toNat : Nat) : Int) = y := fun h => by omega
          refine RunL.still rfl rfl rfl (Still.load rfl rfl Tryz.isAgg102 (fun _ hs => cell_nth (hs.at (i := 1) rfl) rfl)) ?_
          refine RunL.still rfl rfl rfl (Still.move rfl rfl) ?_
          refine RunL.still rfl rfl rfl (Still.indexOwnI (m := y.toNat) rfl rfl rfl Tryz.underlying102 Tryz.sizeOf4 (fun _ hs => hs.own (i := 0) rfl) (by omega) (by omega)) ?_
          refine RunL.still rfl rfl rfl (Still.load rfl rfl Tryz.isAgg4 (fun w hs => own_at (hs.own (i := 0) rfl) (bools_get (markB_get (by omega))))) ?_
          refine RunL.still rfl rfl rfl (Still.pickF rfl rfl rfl) ?_
          refine RunL.nil ?_
          refine Ends.then ?_
          refine RunC.cond rfl (fun h54 => ?_) (fun h54 => ?_)
          · skip
            refine RunC.seq ?_
            refine RunC.region ?_
            refine RunL.still rfl rfl rfl (Still.build_0 (.agg #[.slice none 0 0, .int .i64 0]) rfl (fun _ => by kernel_rfl)) ?_
            refine RunL.does0 rfl rfl (Does.store rfl rfl rfl (i := 6) rfl Tryz.sizeOf24 rfl (rfl) rfl) (fun _ _ => ?_)
            refine RunL.still rfl rfl rfl (Still.assign rfl rfl) ?_
            refine RunL.nil ?_
            refine Ends.then ?_
            refine RunC.ret ?_
            refine Ends.then_ret ?_
            refine Ends.block_ret ?_
            refine Ends.then_ret ?_
            refine Ends.then_ret ?_
            refine Ends.block_ret ?_
            refine Ends.then_ret ?_
            refine Ends.leave (.inl rfl) (fun _ _ ok => results2 Tryz.results27 (Holds.cell rfl (fun _ hs => load_cells (vs := [_, _]) Tryz.isAgg24 Tryz.sizeOf24 rfl (cells_nth (hs.at (i := 6) rfl) ⟨rfl, ⟨rfl, trivial⟩⟩))) (Holds.tmp rfl) ok) (fun w3 hs => ?_)
            (exfalso; have h1 := of_decide_eq_true hD; have h2 := h1.2 y (List.mem_of_getElem? hy); first | omega | exact not_nodup hy (by rw [← hyn (by omega)]; simpa using h54) h1.1)
          · skip
            refine RunC.skip ?_
            refine Ends.then ?_
            refine RunC.region ?_
            refine RunL.still rfl rfl rfl (Still.load rfl rfl Tryz.isAgg102 (fun _ hs => cell_nth (hs.at (i := 1) rfl) rfl)) ?_
            refine RunL.still rfl rfl rfl (Still.move rfl rfl) ?_
            refine RunL.still rfl rfl rfl (Still.indexOwnI (m := y.toNat) rfl rfl rfl Tryz.underlying102 Tryz.sizeOf4 (fun _ hs => hs.own (i := 0) rfl) (by omega) (by omega)) ?_
            refine RunL.does0 rfl rfl (Does.storeOwn1 (xs' := (bools (markB xs ((compCount d + d.loops.toNat)) (i + 1)))) rfl rfl rfl rfl (i := 0) rfl Tryz.sizeOf4 rfl (by simp [markB_len]; omega) ((bools_set _ _ _).trans (congrArg bools (markB_set (by rw [hyn (by omega)]; exact hy))))) (fun _ _ => ?_)
            refine RunL.nil ?_
            refine Ends.block ?_
            refine Ends.then ?_
            refine RunC.region ?_
            refine RunL.still rfl rfl rfl (Still.add rfl rfl rfl (fits64 (by omega) (by omega))) ?_
            refine RunL.still rfl rfl rfl (Still.move rfl rfl) ?_
            refine RunL.nil ?_
            refine Ends.again (i + 1) ?_ ?_ (Fr.Sub.app ?_ ?_) ?_
            · exact ⟨by omega, nodup_take_succ hy hnd (by rw [← hyn (by omega)]; simpa using h54), fun x hx2 => by rw [List.take_add_one, hy] at hx2; rcases List.mem_append.1 hx2 with hx2 | hx2; exact hok x hx2; rw [List.mem_singleton.1 hx2]; omega⟩
            · show _ < _; omega
            · exact Fr.Sub.cons rfl (Fr.Sub.nil _)
            · exact Fr.Sub.cons rfl (Fr.Sub.cons rfl (Fr.Sub.cons rfl (Fr.Sub.cons rfl (Fr.Sub.cons rfl (Fr.Sub.cons rfl (Fr.Sub.nil _))))))
            · exact HSub.pick 0 rfl (HSub.pick 0 rfl (HSub.pick 0 rfl (HSub.pick 0 rfl (HSub.pick 0 rfl (HSub.pick 0 rfl (HSub.pick 0 rfl (HSub.pick 0 rfl (HSub.nil _))))))))
    · have h38 := of_decide_eq_false h38
      obtain rfl : i = xs.length := by omega
      refine RunC.exit ?_
      refine Ends.then_exit ?_
      refine Ends.then_exit ?_
      refine Ends.block_exit ?_
      refine Ends.then ?_
      refine RunC.seq ?_
      refine RunC.region ?_
      refine RunL.still rfl rfl rfl (Still.loads rfl rfl Tryz.isAgg24 Tryz.sizeOf24 (vs := [_, _]) rfl (fun _ hs => cells_nth (hs.at (i := 7) rfl) ⟨rfl, ⟨rfl, trivial⟩⟩)) ?_
      refine RunL.still rfl rfl rfl (Still.makeFunc (vs := #[_, _]) rfl rfl) ?_
      refine RunL.grows rfl rfl rfl (Grows.call (vs := #[_, _]) rfl rfl Tryz.call59 (fun w hs => dg_copied base A cap d 63 #[ptrV b10, ptrV b8] _ w (hd.sym hs) h200 Tryz.call63 (fun x hx w1 ho => dg_reverse1 x b10 b8 _ _ (markB xs ((compCount d + d.loops.toNat)) xs.length) (compOf d) w1 (ho.cell (cell_nth (hs.at (i := 1) rfl) rfl) (fun x => x)) (ho.cell (cell_nth (hs.at (i := 2) rfl) rfl) (fun x => x)) (by rw [markB_len]; exact own_shape (hs.own (i := 0) rfl)) (by rw [hcl]; exact ⟨vb0, vc0, rfl, hvb0⟩) (fun j v hj => ho.cell (own_all (hs.own (i := 0) rfl) j v hj) (fun x => x)) (fun j v hj => ho.cell (own_all (hs.own (i := 3) rfl) j v hj) (fun x => x)) (hS.2.2.2.1 x hx).1 (by have h : 0 ≤ x.a0 ∧ x.a0 < 2 * (d.cross.length : Int) := (hS.2.2.2.1 x hx).2 0 (by omega); omega) (by have h : 0 ≤ x.a1 ∧ x.a1 < 2 * (d.cross.length : Int) := (hS.2.2.2.1 x hx).2 1 (by omega); omega) (fun y hy => by rw [markB_len]; exact comp_range hS hy (comp_nonneg hy))))) (fun q hq => ?_)
      refine RunL.does0 rfl rfl (Does.store rfl rfl rfl (i := 7) rfl Tryz.sizeOf24 rfl (rfl) rfl) (fun _ _ => ?_)
      refine RunL.still rfl rfl rfl (Still.assign rfl rfl) ?_
      refine RunL.nil ?_
      refine Ends.then ?_
      refine RunC.ret ?_
      refine Ends.leave (.inl rfl) (fun _ _ ok => results2 Tryz.results27 (Holds.cell rfl (fun _ hs => load_cells (vs := [_, _]) Tryz.isAgg24 Tryz.sizeOf24 rfl (cells_nth (hs.at (i := 7) rfl) ⟨rfl, ⟨rfl, trivial⟩⟩))) (Holds.tmp rfl) ok) (fun w4 hs => ?_)
      exact Ret.intro q hq rfl (HSub.pick 0 rfl (HSub.nil _)) hs

theorem dg_Reverse_arg (base : Option Addr) (A : Addr) (cap : Nat) (d : Dia) (lb : Option Addr) (LA : Addr) (lc : Nat) (xs : List Int) (w : World) (hd : DiaAt w base A d) (hxs : IntsAt w lb LA lc xs) (hxl : xs.length ≤ 9223372036854775807) (hc : checkI d = 0) (hD : distB xs ((compCount d : Int) + d.loops) = false) : Gives Tryz.prog 27 #[diaV base cap d, lisV lb lc xs] w Nil (fun _ : Unit => True) (fun _ => .tuple #[.agg #[.slice none 0 0, iv 0], iv 1]) (fun _ => []) := by
  obtain ⟨hS, hPl⟩ := checkI_ok.1 hc
  have h200 := hS.1
  have hlo := hS.2.1
  have hlo2 := hS.2.2.1
  have hcc := compTo_le (nextN d) (2 * d.cross.length) (2 * d.cross.length)
  rw [← compCount] at hcc
  have hcl := compOf_len d
  refine fn_of_run (S := Nil) (args := [diaV base cap d, lisV lb lc xs]) (n := 63) (L := []) Tryz.func27 rfl Tryz.ntmps27 (Nat.le_of_ble_eq_true rfl) (Sym.nil _ _) ?_
  change RunC _ _ _ [(0, _), (1, _)] _
  refine RunC.seq ?_
  refine RunC.region ?_
  refine RunL.grows rfl rfl rfl (Grows.box rfl rfl) (fun b2 _ => ?_)
  refine RunL.grows rfl rfl rfl (Grows.alloc rfl Tryz.zeroValue24) (fun b4 _ => ?_)
  refine RunL.still rfl rfl rfl (Still.assign rfl rfl) ?_
  refine RunL.nil ?_
  refine Ends.then ?_
  refine RunC.seq ?_
  refine RunC.region ?_
  refine RunL.still rfl rfl rfl (Still.loads rfl rfl Tryz.isAgg24 Tryz.sizeOf24 (vs := [_, _]) rfl (fun _ hs => cells_nth (hs.at (i := 1) rfl) ⟨rfl, ⟨rfl, trivial⟩⟩)) ?_
  refine RunL.grows rfl rfl rfl (Grows.call (vs := #[_]) rfl rfl Tryz.call31 (fun w hs => dg_enter_ok base A cap d w (hd.sym hs) hc)) (fun ⟨eb, av⟩ hav => ?_)
  refine RunL.still rfl rfl rfl (Still.move rfl rfl) ?_
  refine RunL.still rfl rfl rfl (Still.extractN rfl rfl rfl) ?_
  refine RunL.still rfl rfl rfl (Still.extractN rfl rfl rfl) ?_
  refine RunL.still rfl rfl rfl (Still.assign rfl rfl) ?_
  refine RunL.still rfl rfl rfl (Still.assign rfl rfl) ?_
  refine RunL.nil ?_
  refine Ends.then ?_
  refine RunC.seq ?_
  refine RunC.seq ?_
  refine RunC.region ?_
  refine RunL.still rfl rfl rfl (Still.move rfl rfl) ?_
  refine RunL.still rfl rfl rfl (Still.neq rfl rfl rfl) ?_
  refine RunL.nil ?_
  refine Ends.then ?_
  refine RunC.cond rfl (fun h19 => ?_) (fun h19 => ?_)
  · have h19 := of_decide_eq_true h19
    exact absurd rfl h19
  · have h19 := of_decide_eq_false h19
    refine RunC.skip ?_
    refine Ends.then ?_
    refine RunC.seq ?_
    refine RunC.region ?_
    refine RunL.still rfl rfl rfl (Still.move rfl rfl) ?_
    refine RunL.grows rfl rfl rfl (Grows.call (vs := #[_]) rfl rfl Tryz.call57 (fun w hs => dg_components eb base A cap d _ w (DgAt.of_own (hd.sym hs) (hs.at (i := 0) rfl) (hs.own (i := 1) rfl)) hS)) (fun ov hov => ?_)
    obtain ⟨vb0, vc0, hvv0, hvb0⟩ := hov
    subst hvv0
    refine RunL.still rfl rfl rfl (Still.move rfl rfl) ?_
    refine RunL.still rfl rfl rfl (Still.extractN rfl rfl rfl) ?_
    refine RunL.still rfl rfl rfl (Still.extractN rfl rfl rfl) ?_
    refine RunL.grows rfl rfl rfl (Grows.alloc rfl Tryz.zeroValue36) (fun b8 _ => ?_)
    refine RunL.does0 rfl rfl (Does.store1 rfl rfl rfl (i := 0) rfl Tryz.sizeOf36 rfl (rfl)) (fun _ _ => ?_)
    refine RunL.still rfl rfl rfl (Still.assign rfl rfl) ?_
    refine RunL.nil ?_
    refine Ends.then ?_
    refine RunC.seq ?_
    refine RunC.region ?_
    refine RunL.still rfl rfl rfl (Still.move rfl rfl) ?_
    refine RunL.still rfl rfl rfl (Still.move rfl rfl) ?_
    refine RunL.still rfl rfl rfl (Still.nilCheck rfl rfl) ?_
    refine RunL.still rfl rfl rfl (Still.fieldAddrL (off := 0) (off' := 0) rfl rfl Tryz.underlying89 rfl Tryz.sizeOf24 rfl) ?_
    refine RunL.still rfl rfl rfl (Still.fieldAddrL (off := 0) (off' := 1) rfl rfl Tryz.underlying24 rfl Tryz.sizeOf3 rfl) ?_
    refine RunL.still rfl rfl rfl (Still.load rfl rfl Tryz.isAgg3 (fun _ hs => cell_nth (hs.at (i := 2) rfl) rfl)) ?_
    refine RunL.still rfl rfl rfl (Still.add rfl rfl rfl (fits64 (by omega) (by omega))) ?_
    refine RunL.again (t := 33) (u := iv ((((compCount d + d.loops.toNat)) : Nat) : Int)) rfl (congrArg (Value.int .i64) (by omega)) ?_
    refine RunL.grows rfl rfl rfl (Grows.make (n := ((compCount d + d.loops.toNat))) (xs := (bools (List.replicate ((compCount d + d.loops.toNat)) false))) rfl rfl rfl Tryz.underlying102 (by kernel_rfl : (_ : Option _) = some (some (.bool false), 1, 1)) rfl (by omega) (by omega) (zeros_one _ _ |>.trans (bools_replicate _ _))) (fun b34 _ => ?_)
    refine RunL.grows rfl rfl rfl (Grows.alloc rfl Tryz.zeroValue102) (fun b10 _ => ?_)
    refine RunL.does0 rfl rfl (Does.store1 rfl rfl rfl (i := 0) rfl Tryz.sizeOf102 rfl (rfl)) (fun _ _ => ?_)
    refine RunL.nil ?_
    refine Ends.then ?_
    refine RunC.seq ?_
    refine RunC.seq ?_
    refine RunC.region ?_
    refine RunL.still rfl rfl rfl (Still.move rfl rfl) ?_
    refine RunL.still rfl rfl rfl (Still.lenV rfl rfl Tryz.underlying36 (hxs.shape)) ?_
    refine RunL.still rfl rfl rfl (Still.move rfl rfl) ?_
    refine RunL.nil ?_
    refine Ends.then ?_
    refine RunC.block ?_
    refine RunC.loop2 (γ := Nat) (keep := [(2, _), (4, _), (8, _), (10, _), (35, _), (36, _)]) (hkeep := [_, _, _, _, _, _, _]) (fun i => i ≤ xs.length ∧ (xs.take i).Nodup ∧ ∀ x ∈ xs.take i, 0 ≤ x ∧ x < ((compCount d : Int) + d.loops)) (fun i => xs.length - i) (fun i => [(37, iv i)]) (fun i => [HL.own 4 1 (.slice (some ⟨b34, 0, none⟩) ((compCount d + d.loops.toNat)) ((compCount d + d.loops.toNat))) ((compCount d + d.loops.toNat)) (bools (markB xs ((compCount d + d.loops.toNat)) i))]) 0 ⟨by omega, by simp, by simp⟩ (Fr.Sub.cons rfl (Fr.Sub.nil _)) (Fr.Sub.cons rfl (Fr.Sub.cons rfl (Fr.Sub.cons rfl (Fr.Sub.cons rfl (Fr.Sub.cons rfl (Fr.Sub.cons rfl (Fr.Sub.nil _))))))) (HSub.pick 1 (by rw [markB_zero]; rfl) (HSub.pick 0 rfl (HSub.pick 0 rfl (HSub.pick 0 rfl (HSub.pick 0 rfl (HSub.pick 0 rfl (HSub.pick 0 rfl (HSub.pick 0 rfl (HSub.nil _))))))))) ?_
    rintro i ⟨hi, hnd, hok⟩
    refine RunC.seq ?_
    refine RunC.region ?_
    refine RunL.still rfl rfl rfl (Still.lss rfl rfl rfl) ?_
    refine RunL.nil ?_
    refine Ends.then ?_
    refine RunC.seq ?_
    refine RunC.cond rfl (fun h38 => ?_) (fun h38 => ?_)
    · have h38 := of_decide_eq_true h38
      obtain ⟨y, hy⟩ := get_of_lt (l := xs) (i := i) (by omega)
      refine RunC.skip ?_
      refine Ends.then ?_
      refine RunC.seq ?_
      refine RunC.block ?_
      refine RunC.seq ?_
      refine RunC.region ?_
      refine RunL.still rfl rfl rfl (Still.indexV _ rfl rfl rfl Tryz.underlying36 Tryz.sizeOf3 (hxs.shape) (rfl) (by omega)) ?_
      refine RunL.still rfl rfl rfl (Still.load rfl rfl Tryz.isAgg3 (fun _ hs => cells_at (Cells.base0 (hxs.cells _) hs) (ints_get hy))) ?_
      refine RunL.still rfl rfl rfl (Still.assign rfl rfl) ?_
      refine RunL.nil ?_
      refine Ends.then ?_
      refine RunC.seq ?_
      refine RunC.seq ?_
      refine RunC.region ?_
      refine RunL.still rfl rfl rfl (Still.move rfl rfl) ?_
      refine RunL.still rfl rfl rfl (Still.lss rfl rfl rfl) ?_
      refine RunL.still rfl rfl rfl (Still.move rfl rfl) ?_
      refine RunL.split (t := 43) rfl (fun h43 => ?_) (fun h43 => ?_)
      · have h43 := of_decide_eq_true h43
        refine RunL.off rfl rfl rfl ?_
        refine RunL.off rfl rfl rfl ?_
        refine RunL.off rfl rfl rfl ?_
        refine RunL.off rfl rfl rfl ?_
        refine RunL.still rfl rfl rfl (Still.pickT rfl rfl rfl) ?_
        refine RunL.still rfl rfl rfl (Still.move rfl rfl) ?_
        have hyn : 0 ≤ y → ((y.toNat : Nat) : Int) = y := fun h => by omega
        refine RunL.off rfl rfl rfl ?_
        refine RunL.off rfl rfl rfl ?_
        refine RunL.off rfl rfl rfl ?_
        refine RunL.off rfl rfl rfl ?_
        refine RunL.still rfl rfl rfl (Still.pickT rfl rfl rfl) ?_
        refine RunL.nil ?_
        refine Ends.then ?_
        refine RunC.cond_true rfl ?_
        refine RunC.seq ?_
        refine RunC.region ?_
        refine RunL.still rfl rfl rfl (Still.build_0 (.agg #[.slice none 0 0, .int .i64 0]) rfl (fun _ => by kernel_rfl)) ?_
        refine RunL.does0 rfl rfl (Does.store rfl rfl rfl (i := 6) rfl Tryz.sizeOf24 rfl (rfl) rfl) (fun _ _ => ?_)
        refine RunL.still rfl rfl rfl (Still.assign rfl rfl) ?_
        refine RunL.nil ?_
        refine Ends.then ?_
        refine RunC.ret ?_
        refine Ends.then_ret ?_
        refine Ends.block_ret ?_
        refine Ends.then_ret ?_
        refine Ends.then_ret ?_
        refine Ends.block_ret ?_
        refine Ends.then_ret ?_
        refine Ends.leave (.inl rfl) (fun _ _ ok => results2 Tryz.results27 (Holds.cell rfl (fun _ hs => load_cells (vs := [_, _]) Tryz.isAgg24 Tryz.sizeOf24 rfl (cells_nth (hs.at (i := 6) rfl) ⟨rfl, ⟨rfl, trivial⟩⟩))) (Holds.tmp rfl) ok) (fun w1 hs => ?_)
        exact Ret.intro () trivial rfl (HSub.nil _) hs
      · have h43 := of_decide_eq_false h43
        refine RunL.still rfl rfl rfl (Still.move rfl rfl) ?_
        refine RunL.still rfl rfl rfl (Still.load rfl rfl Tryz.isAgg102 (fun _ hs => cell_nth (hs.at (i := 1) rfl) rfl)) ?_
        refine RunL.still rfl rfl rfl (Still.lenOwn rfl rfl Tryz.underlying102 (fun _ hs => hs.own (i := 0) rfl)) ?_
        refine RunL.still rfl rfl rfl (Still.geq rfl rfl rfl) ?_
        refine RunL.still rfl rfl rfl (Still.pickF rfl rfl rfl) ?_
        refine RunL.still rfl rfl rfl (Still.move rfl rfl) ?_
        refine RunL.split (t := 49) rfl (fun h49 => ?_) (fun h49 => ?_)
        · have h49 := of_decide_eq_true h49
          have hyn : 0 ≤ y → ((y.toNat : Nat) : Int) = y := fun h => by omega
          refine RunL.off rfl rfl rfl ?_
          refine RunL.off rfl rfl rfl ?_
          refine RunL.off rfl rfl rfl ?_
          refine RunL.off rfl rfl rfl ?_
          refine RunL.still rfl rfl rfl (Still.pickT rfl rfl rfl) ?_
          refine RunL.nil ?_
          refine Ends.then ?_
          refine RunC.cond_true rfl ?_
          refine RunC.seq ?_
          refine RunC.region ?_
          refine RunL.still rfl rfl rfl (Still.build_0 (.agg #[.slice none 0 0, .int .i64 0]) rfl (fun _ => by kernel_rfl)) ?_
          refine RunL.does0 rfl rfl (Does.store rfl rfl rfl (i := 6) rfl Tryz.sizeOf24 rfl (rfl) rfl) (fun _ _ => ?_)
          refine RunL.still rfl rfl rfl (Still.assign rfl rfl) ?_
          refine RunL.nil ?_
          refine Ends.then ?_
          refine RunC.ret ?_
          refine Ends.then_ret ?_
          refine Ends.block_ret ?_
          refine Ends.then_ret ?_
          refine Ends.then_ret ?_
          refine Ends.block_ret ?_
          refine Ends.then_ret ?_
          refine Ends.leave (.inl rfl) (fun _ _ ok => results2 Tryz.results27 (Holds.cell rfl (fun _ hs => load_cells (vs := [_, _]) Tryz.isAgg24 Tryz.sizeOf24 rfl (cells_nth (hs.at (i := 6) rfl) ⟨rfl, ⟨rfl, trivial⟩⟩))) (Holds.tmp rfl) ok) (fun w2 hs => ?_)
          exact Ret.intro () trivial rfl (HSub.nil _) hs
        · have h49 := of_decide_eq_false h49
          have hyn : 0 ≤ y → ((y.toNat : Nat) : Int) = y := fun h => by omega
          refine RunL.still rfl rfl rfl (Still.load rfl rfl Tryz.isAgg102 (fun _ hs => cell_nth (hs.at (i := 1) rfl) rfl)) ?_
          refine RunL.still rfl rfl rfl (Still.move rfl rfl) ?_
          refine RunL.still rfl rfl rfl (Still.indexOwnI (m := y.toNat) rfl rfl rfl Tryz.underlying102 Tryz.sizeOf4 (fun _ hs => hs.own (i := 0) rfl) (by omega) (by omega)) ?_
          refine RunL.still rfl rfl rfl (Still.load rfl rfl Tryz.isAgg4 (fun w hs => own_at (hs.own (i := 0) rfl) (bools_get (markB_get (by omega))))) ?_
          refine RunL.still rfl rfl rfl (Still.pickF rfl rfl rfl) ?_
          refine RunL.nil ?_
          refine Ends.then ?_
          refine RunC.cond rfl (fun h54 => ?_) (fun h54 => ?_)
          · skip
            refine RunC.seq ?_
            refine RunC.region ?_
            refine RunL.still rfl rfl rfl (Still.build_0 (.agg #[.slice none 0 0, .int .i64 0]) rfl (fun _ => by kernel_rfl)) ?_
            refine RunL.does0 rfl rfl (Does.store rfl rfl rfl (i := 6) rfl Tryz.sizeOf24 rfl (rfl) rfl) (fun _ _ => ?_)
            refine RunL.still rfl rfl rfl (Still.assign rfl rfl) ?_
            refine RunL.nil ?_
            refine Ends.then ?_
            refine RunC.ret ?_
            refine Ends.then_ret ?_
            refine Ends.block_ret ?_
            refine Ends.then_ret ?_
            refine Ends.then_ret ?_
            refine Ends.block_ret ?_
            refine Ends.then_ret ?_
            refine Ends.leave (.inl rfl) (fun _ _ ok => results2 Tryz.results27 (Holds.cell rfl (fun _ hs => load_cells (vs := [_, _]) Tryz.isAgg24 Tryz.sizeOf24 rfl (cells_nth (hs.at (i := 6) rfl) ⟨rfl, ⟨rfl, trivial⟩⟩))) (Holds.tmp rfl) ok) (fun w3 hs => ?_)
            exact Ret.intro () trivial rfl (HSub.nil _) hs
          · skip
            refine RunC.skip ?_
            refine Ends.then ?_
            refine RunC.region ?_
            refine RunL.still rfl rfl rfl (Still.load rfl rfl Tryz.isAgg102 (fun _ hs => cell_nth (hs.at (i := 1) rfl) rfl)) ?_
            refine RunL.still rfl rfl rfl (Still.move rfl rfl) ?_
            refine RunL.still rfl rfl rfl (Still.indexOwnI (m := y.toNat) rfl rfl rfl Tryz.underlying102 Tryz.sizeOf4 (fun _ hs => hs.own (i := 0) rfl) (by omega) (by omega)) ?_
            refine RunL.does0 rfl rfl (Does.storeOwn1 (xs' := (bools (markB xs ((compCount d + d.loops.toNat)) (i + 1)))) rfl rfl rfl rfl (i := 0) rfl Tryz.sizeOf4 rfl (by simp [markB_len]; omega) ((bools_set _ _ _).trans (congrArg bools (markB_set (by rw [hyn (by omega)]; exact hy))))) (fun _ _ => ?_)
            refine RunL.nil ?_
            refine Ends.block ?_
            refine Ends.then ?_
            refine RunC.region ?_
            refine RunL.still rfl rfl rfl (Still.add rfl rfl rfl (fits64 (by omega) (by omega))) ?_
            refine RunL.still rfl rfl rfl (Still.move rfl rfl) ?_
            refine RunL.nil ?_
            refine Ends.again (i + 1) ?_ ?_ (Fr.Sub.app ?_ ?_) ?_
            · exact ⟨by omega, nodup_take_succ hy hnd (by rw [← hyn (by omega)]; simpa using h54), fun x hx2 => by rw [List.take_add_one, hy] at hx2; rcases List.mem_append.1 hx2 with hx2 | hx2; exact hok x hx2; rw [List.mem_singleton.1 hx2]; omega⟩
            · show _ < _; omega
            · exact Fr.Sub.cons rfl (Fr.Sub.nil _)
            · exact Fr.Sub.cons rfl (Fr.Sub.cons rfl (Fr.Sub.cons rfl (Fr.Sub.cons rfl (Fr.Sub.cons rfl (Fr.Sub.cons rfl (Fr.Sub.nil _))))))
            · exact HSub.pick 0 rfl (HSub.pick 0 rfl (HSub.pick 0 rfl (HSub.pick 0 rfl (HSub.pick 0 rfl (HSub.pick 0 rfl (HSub.pick 0 rfl (HSub.pick 0 rfl (HSub.nil _))))))))
    · have h38 := of_decide_eq_false h38
      obtain rfl : i = xs.length := by omega
      refine RunC.exit ?_
      refine Ends.then_exit ?_
      refine Ends.then_exit ?_
      refine Ends.block_exit ?_
      refine Ends.then ?_
      refine RunC.seq ?_
      refine RunC.region ?_
      refine RunL.still rfl rfl rfl (Still.loads rfl rfl Tryz.isAgg24 Tryz.sizeOf24 (vs := [_, _]) rfl (fun _ hs => cells_nth (hs.at (i := 7) rfl) ⟨rfl, ⟨rfl, trivial⟩⟩)) ?_
      refine RunL.still rfl rfl rfl (Still.makeFunc (vs := #[_, _]) rfl rfl) ?_
      refine RunL.grows rfl rfl rfl (Grows.call (vs := #[_, _]) rfl rfl Tryz.call59 (fun w hs => dg_copied base A cap d 63 #[ptrV b10, ptrV b8] _ w (hd.sym hs) h200 Tryz.call63 (fun x hx w1 ho => dg_reverse1 x b10 b8 _ _ (markB xs ((compCount d + d.loops.toNat)) xs.length) (compOf d) w1 (ho.cell (cell_nth (hs.at (i := 1) rfl) rfl) (fun x => x)) (ho.cell (cell_nth (hs.at (i := 2) rfl) rfl) (fun x => x)) (by rw [markB_len]; exact own_shape (hs.own (i := 0) rfl)) (by rw [hcl]; exact ⟨vb0, vc0, rfl, hvb0⟩) (fun j v hj => ho.cell (own_all (hs.own (i := 0) rfl) j v hj) (fun x => x)) (fun j v hj => ho.cell (own_all (hs.own (i := 3) rfl) j v hj) (fun x => x)) (hS.2.2.2.1 x hx).1 (by have h : 0 ≤ x.a0 ∧ x.a0 < 2 * (d.cross.length : Int) := (hS.2.2.2.1 x hx).2 0 (by omega); omega) (by have h : 0 ≤ x.a1 ∧ x.a1 < 2 * (d.cross.length : Int) := (hS.2.2.2.1 x hx).2 1 (by omega); omega) (fun y hy => by rw [markB_len]; exact comp_range hS hy (comp_nonneg hy))))) (fun q hq => ?_)
      refine RunL.does0 rfl rfl (Does.store rfl rfl rfl (i := 7) rfl Tryz.sizeOf24 rfl (rfl) rfl) (fun _ _ => ?_)
      refine RunL.still rfl rfl rfl (Still.assign rfl rfl) ?_
      refine RunL.nil ?_
      refine Ends.then ?_
      refine RunC.ret ?_
      refine Ends.leave (.inl rfl) (fun _ _ ok => results2 Tryz.results27 (Holds.cell rfl (fun _ hs => load_cells (vs := [_, _]) Tryz.isAgg24 Tryz.sizeOf24 rfl (cells_nth (hs.at (i := 7) rfl) ⟨rfl, ⟨rfl, trivial⟩⟩))) (Holds.tmp rfl) ok) (fun w4 hs => ?_)
      (exfalso; exact absurd (decide_eq_true (show xs.Nodup ∧ ∀ x ∈ xs, 0 ≤ x ∧ x < (compCount d : Int) + d.loops by rw [List.take_of_length_le (by omega)] at hnd hok; exact ⟨hnd, hok⟩)) (by rw [← distB, hD]; decide))

end Go.Proofs
/- Unions and sums of the reference, chapter 22. -/
namespace Go.Proofs
open Go Go.V
set_option maxRecDepth 20000
theorem ownD_uni (a b : Dia) (vb : Option Addr) (vc : Nat) : ownD (vb, vc) (uniD a b) = HL.own 62 5 (.slice vb (a.cross.length + b.cross.length) vc) (a.cross.length + b.cross.length) ((a.cross ++ (b.cross.take b.cross.length).map (shCr (2 * (a.cross.length : Int)))).flatMap encCr) := by
  rw [ownD, uniD_len, List.take_length]; rfl

end Go.Proofs
/- Sums of the reference, chapter 22. -/
namespace Go.Proofs
open Go Go.V
set_option maxRecDepth 20000
theorem splD_len (a b : Dia) (i j : Int) : (splD a b i j).cross.length = (uniD a b).cross.length := by rw [splD, setQ_len, setQ_len]
theorem ownD_spl (a b : Dia) (i j : Int) (q : Option Addr × Nat) : ownD q (splD a b i j) = HL.own 62 5 (.slice q.1 (uniD a b).cross.length q.2) (uniD a b).cross.length ((splD a b i j).cross.flatMap encCr) := by rw [ownD, splD_len]
end Go.Proofs
/- Unions and sums of the program, chapter 22. -/
namespace Go.Proofs
open Go Go.V
set_option maxRecDepth 20000
theorem dg_both_d1 (ba : Option Addr) (A : Addr) (ca : Nat) (a : Dia) (bb : Option Addr) (B : Addr) (cb : Nat) (b : Dia) (w : World) (hda : DiaAt w ba A a) (hdb : DiaAt w bb B b) (ha : ¬ SoundP a) : Gives Tryz.prog 64 #[diaV ba ca a, diaV bb cb b] w Nil (fun _ : Unit => True) (fun _ => .tuple #[.pointer none, .pointer none, iv 220]) (fun _ => []) := by
  refine fn_of_run (S := Nil) (args := [diaV ba ca a, diaV bb cb b]) (n := 47) (L := []) Tryz.func64 rfl Tryz.ntmps64 (Nat.le_of_ble_eq_true rfl) (Sym.nil _ _) ?_
  change RunC _ _ _ [(0, _), (1, _)] _
  refine RunC.seq ?_
  refine RunC.region ?_
  refine RunL.grows rfl rfl rfl (Grows.box rfl rfl) (fun b2 _ => ?_)
  refine RunL.grows rfl rfl rfl (Grows.box rfl rfl) (fun b3 _ => ?_)
  refine RunL.still rfl rfl rfl (Still.assign rfl rfl) ?_
  refine RunL.still rfl rfl rfl (Still.assign rfl rfl) ?_
  refine RunL.still rfl rfl rfl (Still.assign rfl rfl) ?_
  refine RunL.nil ?_
  refine Ends.then ?_
  refine RunC.seq ?_
  refine RunC.region ?_
  refine RunL.still rfl rfl rfl (Still.loads rfl rfl Tryz.isAgg24 Tryz.sizeOf24 (vs := [_, _]) rfl (fun _ hs => cells_nth (hs.at (i := 1) rfl) ⟨rfl, ⟨rfl, trivial⟩⟩)) ?_
  refine RunL.grows rfl rfl rfl (Grows.call (vs := #[_]) rfl rfl Tryz.call67 (fun w hs => dg_ends ba A ca a w (hda.sym hs))) (fun va _ => ?_)
  refine RunL.still rfl rfl rfl (Still.move rfl rfl) ?_
  refine RunL.still rfl rfl rfl (Still.extractN rfl rfl rfl) ?_
  refine RunL.still rfl rfl rfl (Still.extractN rfl rfl rfl) ?_
  refine RunL.again (t := 17) (u := .bool false) rfl ((congrArg Value.bool (Bool.eq_false_iff.2 fun k => ha (soundB_iff.1 k)))) ?_
  refine RunL.still rfl rfl rfl (Still.assign rfl rfl) ?_
  refine RunL.still rfl rfl rfl (Still.assign rfl rfl) ?_
  refine RunL.nil ?_
  refine Ends.then ?_
  refine RunC.seq ?_
  refine RunC.region ?_
  refine RunL.still rfl rfl rfl (Still.loads rfl rfl Tryz.isAgg24 Tryz.sizeOf24 (vs := [_, _]) rfl (fun _ hs => cells_nth (hs.at (i := 1) rfl) ⟨rfl, ⟨rfl, trivial⟩⟩)) ?_
  refine RunL.grows rfl rfl rfl (Grows.call (vs := #[_]) rfl rfl Tryz.call67 (fun w hs => dg_ends bb B cb b w (hdb.sym hs))) (fun vb _ => ?_)
  refine RunL.still rfl rfl rfl (Still.move rfl rfl) ?_
  refine RunL.still rfl rfl rfl (Still.extractN rfl rfl rfl) ?_
  refine RunL.still rfl rfl rfl (Still.extractN rfl rfl rfl) ?_
  refine RunL.still rfl rfl rfl (Still.assign rfl rfl) ?_
  refine RunL.still rfl rfl rfl (Still.assign rfl rfl) ?_
  refine RunL.nil ?_
  refine Ends.then ?_
  refine RunC.seq ?_
  refine RunC.seq ?_
  refine RunC.region ?_
  refine RunL.still rfl rfl rfl (Still.move rfl rfl) ?_
  refine RunL.still rfl rfl rfl (Still.not rfl rfl) ?_
  refine RunL.still rfl rfl rfl (Still.move rfl rfl) ?_
  refine RunL.off rfl rfl rfl ?_
  refine RunL.off rfl rfl rfl ?_
  refine RunL.still rfl rfl rfl (Still.pickT rfl rfl rfl) ?_
  refine RunL.nil ?_
  refine Ends.then ?_
  refine RunC.cond_true rfl ?_
  refine RunC.seq ?_
  refine RunC.region ?_
  refine RunL.still rfl rfl rfl (Still.assign rfl rfl) ?_
  refine RunL.still rfl rfl rfl (Still.assign rfl rfl) ?_
  refine RunL.still rfl rfl rfl (Still.assign rfl rfl) ?_
  refine RunL.nil ?_
  refine Ends.then ?_
  refine RunC.ret ?_
  refine Ends.then_ret ?_
  refine Ends.leave (.inl rfl) (fun _ _ ok => results3 Tryz.results64 (Holds.tmp rfl) (Holds.tmp rfl) (Holds.tmp rfl) ok) (fun w1 hs => ?_)
  exact Ret.intro () trivial rfl (HSub.nil _) hs

theorem dg_both_d2 (ba : Option Addr) (A : Addr) (ca : Nat) (a : Dia) (bb : Option Addr) (B : Addr) (cb : Nat) (b : Dia) (w : World) (hda : DiaAt w ba A a) (hdb : DiaAt w bb B b) (ha : SoundP a) (hb : ¬ SoundP b) : Gives Tryz.prog 64 #[diaV ba ca a, diaV bb cb b] w Nil (fun _ : Unit => True) (fun _ => .tuple #[.pointer none, .pointer none, iv 220]) (fun _ => []) := by
  refine fn_of_run (S := Nil) (args := [diaV ba ca a, diaV bb cb b]) (n := 47) (L := []) Tryz.func64 rfl Tryz.ntmps64 (Nat.le_of_ble_eq_true rfl) (Sym.nil _ _) ?_
  change RunC _ _ _ [(0, _), (1, _)] _
  refine RunC.seq ?_
  refine RunC.region ?_
  refine RunL.grows rfl rfl rfl (Grows.box rfl rfl) (fun b2 _ => ?_)
  refine RunL.grows rfl rfl rfl (Grows.box rfl rfl) (fun b3 _ => ?_)
  refine RunL.still rfl rfl rfl (Still.assign rfl rfl) ?_
  refine RunL.still rfl rfl rfl (Still.assign rfl rfl) ?_
  refine RunL.still rfl rfl rfl (Still.assign rfl rfl) ?_
  refine RunL.nil ?_
  refine Ends.then ?_
  refine RunC.seq ?_
  refine RunC.region ?_
  refine RunL.still rfl rfl rfl (Still.loads rfl rfl Tryz.isAgg24 Tryz.sizeOf24 (vs := [_, _]) rfl (fun _ hs => cells_nth (hs.at (i := 1) rfl) ⟨rfl, ⟨rfl, trivial⟩⟩)) ?_
  refine RunL.grows rfl rfl rfl (Grows.call (vs := #[_]) rfl rfl Tryz.call67 (fun w hs => dg_ends ba A ca a w (hda.sym hs))) (fun va _ => ?_)
  refine RunL.still rfl rfl rfl (Still.move rfl rfl) ?_
  refine RunL.still rfl rfl rfl (Still.extractN rfl rfl rfl) ?_
  refine RunL.still rfl rfl rfl (Still.extractN rfl rfl rfl) ?_
  refine RunL.again (t := 17) (u := .bool true) rfl ((congrArg Value.bool (soundB_iff.2 ha))) ?_
  refine RunL.still rfl rfl rfl (Still.assign rfl rfl) ?_
  refine RunL.still rfl rfl rfl (Still.assign rfl rfl) ?_
  refine RunL.nil ?_
  refine Ends.then ?_
  refine RunC.seq ?_
  refine RunC.region ?_
  refine RunL.still rfl rfl rfl (Still.loads rfl rfl Tryz.isAgg24 Tryz.sizeOf24 (vs := [_, _]) rfl (fun _ hs => cells_nth (hs.at (i := 1) rfl) ⟨rfl, ⟨rfl, trivial⟩⟩)) ?_
  refine RunL.grows rfl rfl rfl (Grows.call (vs := #[_]) rfl rfl Tryz.call67 (fun w hs => dg_ends bb B cb b w (hdb.sym hs))) (fun vb _ => ?_)
  refine RunL.still rfl rfl rfl (Still.move rfl rfl) ?_
  refine RunL.still rfl rfl rfl (Still.extractN rfl rfl rfl) ?_
  refine RunL.still rfl rfl rfl (Still.extractN rfl rfl rfl) ?_
  refine RunL.again (t := 22) (u := .bool false) rfl ((congrArg Value.bool (Bool.eq_false_iff.2 fun k => hb (soundB_iff.1 k)))) ?_
  refine RunL.still rfl rfl rfl (Still.assign rfl rfl) ?_
  refine RunL.still rfl rfl rfl (Still.assign rfl rfl) ?_
  refine RunL.nil ?_
  refine Ends.then ?_
  refine RunC.seq ?_
  refine RunC.seq ?_
  refine RunC.region ?_
  refine RunL.still rfl rfl rfl (Still.move rfl rfl) ?_
  refine RunL.still rfl rfl rfl (Still.not rfl rfl) ?_
  refine RunL.still rfl rfl rfl (Still.move rfl rfl) ?_
  refine RunL.still rfl rfl rfl (Still.move rfl rfl) ?_
  refine RunL.still rfl rfl rfl (Still.not rfl rfl) ?_
  refine RunL.still rfl rfl rfl (Still.pickF rfl rfl rfl) ?_
  refine RunL.nil ?_
  refine Ends.then ?_
  refine RunC.cond_true rfl ?_
  refine RunC.seq ?_
  refine RunC.region ?_
  refine RunL.still rfl rfl rfl (Still.assign rfl rfl) ?_
  refine RunL.still rfl rfl rfl (Still.assign rfl rfl) ?_
  refine RunL.still rfl rfl rfl (Still.assign rfl rfl) ?_
  refine RunL.nil ?_
  refine Ends.then ?_
  refine RunC.ret ?_
  refine Ends.then_ret ?_
  refine Ends.leave (.inl rfl) (fun _ _ ok => results3 Tryz.results64 (Holds.tmp rfl) (Holds.tmp rfl) (Holds.tmp rfl) ok) (fun w1 hs => ?_)
  exact Ret.intro () trivial rfl (HSub.nil _) hs

theorem dg_both_p1 (ba : Option Addr) (A : Addr) (ca : Nat) (a : Dia) (bb : Option Addr) (B : Addr) (cb : Nat) (b : Dia) (w : World) (hda : DiaAt w ba A a) (hdb : DiaAt w bb B b) (ha : SoundP a) (hb : SoundP b) (hca : checkI a ≠ 0) : Gives Tryz.prog 64 #[diaV ba ca a, diaV bb cb b] w Nil (fun _ : Unit => True) (fun _ => .tuple #[.pointer none, .pointer none, iv 221]) (fun _ => []) := by
  refine fn_of_run (S := Nil) (args := [diaV ba ca a, diaV bb cb b]) (n := 47) (L := []) Tryz.func64 rfl Tryz.ntmps64 (Nat.le_of_ble_eq_true rfl) (Sym.nil _ _) ?_
  change RunC _ _ _ [(0, _), (1, _)] _
  refine RunC.seq ?_
  refine RunC.region ?_
  refine RunL.grows rfl rfl rfl (Grows.box rfl rfl) (fun b2 _ => ?_)
  refine RunL.grows rfl rfl rfl (Grows.box rfl rfl) (fun b3 _ => ?_)
  refine RunL.still rfl rfl rfl (Still.assign rfl rfl) ?_
  refine RunL.still rfl rfl rfl (Still.assign rfl rfl) ?_
  refine RunL.still rfl rfl rfl (Still.assign rfl rfl) ?_
  refine RunL.nil ?_
  refine Ends.then ?_
  refine RunC.seq ?_
  refine RunC.region ?_
  refine RunL.still rfl rfl rfl (Still.loads rfl rfl Tryz.isAgg24 Tryz.sizeOf24 (vs := [_, _]) rfl (fun _ hs => cells_nth (hs.at (i := 1) rfl) ⟨rfl, ⟨rfl, trivial⟩⟩)) ?_
  refine RunL.grows rfl rfl rfl (Grows.call (vs := #[_]) rfl rfl Tryz.call67 (fun w hs => dg_ends ba A ca a w (hda.sym hs))) (fun va _ => ?_)
  refine RunL.still rfl rfl rfl (Still.move rfl rfl) ?_
  refine RunL.still rfl rfl rfl (Still.extractN rfl rfl rfl) ?_
  refine RunL.still rfl rfl rfl (Still.extractN rfl rfl rfl) ?_
  refine RunL.again (t := 17) (u := .bool true) rfl ((congrArg Value.bool (soundB_iff.2 ha))) ?_
  refine RunL.still rfl rfl rfl (Still.assign rfl rfl) ?_
  refine RunL.still rfl rfl rfl (Still.assign rfl rfl) ?_
  refine RunL.nil ?_
  refine Ends.then ?_
  refine RunC.seq ?_
  refine RunC.region ?_
  refine RunL.still rfl rfl rfl (Still.loads rfl rfl Tryz.isAgg24 Tryz.sizeOf24 (vs := [_, _]) rfl (fun _ hs => cells_nth (hs.at (i := 1) rfl) ⟨rfl, ⟨rfl, trivial⟩⟩)) ?_
  refine RunL.grows rfl rfl rfl (Grows.call (vs := #[_]) rfl rfl Tryz.call67 (fun w hs => dg_ends bb B cb b w (hdb.sym hs))) (fun vb _ => ?_)
  refine RunL.still rfl rfl rfl (Still.move rfl rfl) ?_
  refine RunL.still rfl rfl rfl (Still.extractN rfl rfl rfl) ?_
  refine RunL.still rfl rfl rfl (Still.extractN rfl rfl rfl) ?_
  refine RunL.again (t := 22) (u := .bool true) rfl ((congrArg Value.bool (soundB_iff.2 hb))) ?_
  refine RunL.still rfl rfl rfl (Still.assign rfl rfl) ?_
  refine RunL.still rfl rfl rfl (Still.assign rfl rfl) ?_
  refine RunL.nil ?_
  refine Ends.then ?_
  refine RunC.seq ?_
  refine RunC.seq ?_
  refine RunC.region ?_
  refine RunL.still rfl rfl rfl (Still.move rfl rfl) ?_
  refine RunL.still rfl rfl rfl (Still.not rfl rfl) ?_
  refine RunL.still rfl rfl rfl (Still.move rfl rfl) ?_
  refine RunL.still rfl rfl rfl (Still.move rfl rfl) ?_
  refine RunL.still rfl rfl rfl (Still.not rfl rfl) ?_
  refine RunL.still rfl rfl rfl (Still.pickF rfl rfl rfl) ?_
  refine RunL.nil ?_
  refine Ends.then ?_
  refine RunC.cond_false rfl ?_
  refine RunC.skip ?_
  refine Ends.then ?_
  refine RunC.seq ?_
  refine RunC.region ?_
  refine RunL.still rfl rfl rfl (Still.loads rfl rfl Tryz.isAgg24 Tryz.sizeOf24 (vs := [_, _]) rfl (fun _ hs => cells_nth (hs.at (i := 3) rfl) ⟨rfl, ⟨rfl, trivial⟩⟩)) ?_
  refine RunL.grows rfl rfl rfl (Grows.call (vs := #[_]) rfl rfl Tryz.call31 (fun w hs => dg_enter_bad ba A ca a w (hda.sym hs) hca)) (fun _ _ => ?_)
  refine RunL.still rfl rfl rfl (Still.move rfl rfl) ?_
  refine RunL.still rfl rfl rfl (Still.extractN rfl rfl rfl) ?_
  refine RunL.still rfl rfl rfl (Still.extractN rfl rfl rfl) ?_
  refine RunL.still rfl rfl rfl (Still.assign rfl rfl) ?_
  refine RunL.still rfl rfl rfl (Still.assign rfl rfl) ?_
  refine RunL.nil ?_
  refine Ends.then ?_
  refine RunC.seq ?_
  refine RunC.region ?_
  refine RunL.still rfl rfl rfl (Still.loads rfl rfl Tryz.isAgg24 Tryz.sizeOf24 (vs := [_, _]) rfl (fun _ hs => cells_nth (hs.at (i := 2) rfl) ⟨rfl, ⟨rfl, trivial⟩⟩)) ?_
  refine RunL.grows rfl rfl rfl (Grows.call (vs := #[_]) rfl rfl Tryz.call31 (fun w hs => dg_enter bb B cb b w (hdb.sym hs))) (fun gb _ => ?_)
  refine RunL.still rfl rfl rfl (Still.move rfl rfl) ?_
  refine RunL.still rfl rfl rfl (Still.extractN rfl rfl rfl) ?_
  refine RunL.still rfl rfl rfl (Still.extractN rfl rfl rfl) ?_
  refine RunL.still rfl rfl rfl (Still.assign rfl rfl) ?_
  refine RunL.still rfl rfl rfl (Still.assign rfl rfl) ?_
  refine RunL.nil ?_
  refine Ends.then ?_
  refine RunC.seq ?_
  refine RunC.seq ?_
  refine RunC.region ?_
  refine RunL.still rfl rfl rfl (Still.move rfl rfl) ?_
  refine RunL.still rfl rfl rfl (Still.neq rfl rfl rfl) ?_
  refine RunL.again (t := 40) (u := .bool true) rfl (congrArg Value.bool (decide_eq_true hca)) ?_
  refine RunL.still rfl rfl rfl (Still.move rfl rfl) ?_
  refine RunL.off rfl rfl rfl ?_
  refine RunL.off rfl rfl rfl ?_
  refine RunL.still rfl rfl rfl (Still.pickT rfl rfl rfl) ?_
  refine RunL.nil ?_
  refine Ends.then ?_
  refine RunC.cond_true rfl ?_
  refine RunC.seq ?_
  refine RunC.region ?_
  refine RunL.still rfl rfl rfl (Still.assign rfl rfl) ?_
  refine RunL.still rfl rfl rfl (Still.assign rfl rfl) ?_
  refine RunL.still rfl rfl rfl (Still.assign rfl rfl) ?_
  refine RunL.nil ?_
  refine Ends.then ?_
  refine RunC.ret ?_
  refine Ends.then_ret ?_
  refine Ends.leave (.inl rfl) (fun _ _ ok => results3 Tryz.results64 (Holds.tmp rfl) (Holds.tmp rfl) (Holds.tmp rfl) ok) (fun w1 hs => ?_)
  exact Ret.intro () trivial rfl (HSub.nil _) hs

theorem dg_both_p2 (ba : Option Addr) (A : Addr) (ca : Nat) (a : Dia) (bb : Option Addr) (B : Addr) (cb : Nat) (b : Dia) (w : World) (hda : DiaAt w ba A a) (hdb : DiaAt w bb B b) (ha : SoundP a) (hb : SoundP b) (hca : checkI a = 0) (hcb : checkI b ≠ 0) : Gives Tryz.prog 64 #[diaV ba ca a, diaV bb cb b] w Nil (fun _ : Unit => True) (fun _ => .tuple #[.pointer none, .pointer none, iv 221]) (fun _ => []) := by
  refine fn_of_run (S := Nil) (args := [diaV ba ca a, diaV bb cb b]) (n := 47) (L := []) Tryz.func64 rfl Tryz.ntmps64 (Nat.le_of_ble_eq_true rfl) (Sym.nil _ _) ?_
  change RunC _ _ _ [(0, _), (1, _)] _
  refine RunC.seq ?_
  refine RunC.region ?_
  refine RunL.grows rfl rfl rfl (Grows.box rfl rfl) (fun b2 _ => ?_)
  refine RunL.grows rfl rfl rfl (Grows.box rfl rfl) (fun b3 _ => ?_)
  refine RunL.still rfl rfl rfl (Still.assign rfl rfl) ?_
  refine RunL.still rfl rfl rfl (Still.assign rfl rfl) ?_
  refine RunL.still rfl rfl rfl (Still.assign rfl rfl) ?_
  refine RunL.nil ?_
  refine Ends.then ?_
  refine RunC.seq ?_
  refine RunC.region ?_
  refine RunL.still rfl rfl rfl (Still.loads rfl rfl Tryz.isAgg24 Tryz.sizeOf24 (vs := [_, _]) rfl (fun _ hs => cells_nth (hs.at (i := 1) rfl) ⟨rfl, ⟨rfl, trivial⟩⟩)) ?_
  refine RunL.grows rfl rfl rfl (Grows.call (vs := #[_]) rfl rfl Tryz.call67 (fun w hs => dg_ends ba A ca a w (hda.sym hs))) (fun va _ => ?_)
  refine RunL.still rfl rfl rfl (Still.move rfl rfl) ?_
  refine RunL.still rfl rfl rfl (Still.extractN rfl rfl rfl) ?_
  refine RunL.still rfl rfl rfl (Still.extractN rfl rfl rfl) ?_
  refine RunL.again (t := 17) (u := .bool true) rfl ((congrArg Value.bool (soundB_iff.2 ha))) ?_
  refine RunL.still rfl rfl rfl (Still.assign rfl rfl) ?_
  refine RunL.still rfl rfl rfl (Still.assign rfl rfl) ?_
  refine RunL.nil ?_
  refine Ends.then ?_
  refine RunC.seq ?_
  refine RunC.region ?_
  refine RunL.still rfl rfl rfl (Still.loads rfl rfl Tryz.isAgg24 Tryz.sizeOf24 (vs := [_, _]) rfl (fun _ hs => cells_nth (hs.at (i := 1) rfl) ⟨rfl, ⟨rfl, trivial⟩⟩)) ?_
  refine RunL.grows rfl rfl rfl (Grows.call (vs := #[_]) rfl rfl Tryz.call67 (fun w hs => dg_ends bb B cb b w (hdb.sym hs))) (fun vb _ => ?_)
  refine RunL.still rfl rfl rfl (Still.move rfl rfl) ?_
  refine RunL.still rfl rfl rfl (Still.extractN rfl rfl rfl) ?_
  refine RunL.still rfl rfl rfl (Still.extractN rfl rfl rfl) ?_
  refine RunL.again (t := 22) (u := .bool true) rfl ((congrArg Value.bool (soundB_iff.2 hb))) ?_
  refine RunL.still rfl rfl rfl (Still.assign rfl rfl) ?_
  refine RunL.still rfl rfl rfl (Still.assign rfl rfl) ?_
  refine RunL.nil ?_
  refine Ends.then ?_
  refine RunC.seq ?_
  refine RunC.seq ?_
  refine RunC.region ?_
  refine RunL.still rfl rfl rfl (Still.move rfl rfl) ?_
  refine RunL.still rfl rfl rfl (Still.not rfl rfl) ?_
  refine RunL.still rfl rfl rfl (Still.move rfl rfl) ?_
  refine RunL.still rfl rfl rfl (Still.move rfl rfl) ?_
  refine RunL.still rfl rfl rfl (Still.not rfl rfl) ?_
  refine RunL.still rfl rfl rfl (Still.pickF rfl rfl rfl) ?_
  refine RunL.nil ?_
  refine Ends.then ?_
  refine RunC.cond_false rfl ?_
  refine RunC.skip ?_
  refine Ends.then ?_
  refine RunC.seq ?_
  refine RunC.region ?_
  refine RunL.still rfl rfl rfl (Still.loads rfl rfl Tryz.isAgg24 Tryz.sizeOf24 (vs := [_, _]) rfl (fun _ hs => cells_nth (hs.at (i := 3) rfl) ⟨rfl, ⟨rfl, trivial⟩⟩)) ?_
  refine RunL.grows rfl rfl rfl (Grows.call (vs := #[_]) rfl rfl Tryz.call31 (fun w hs => dg_enter_ok ba A ca a w (hda.sym hs) hca)) (fun ⟨xa, ya⟩ _ => ?_)
  refine RunL.still rfl rfl rfl (Still.move rfl rfl) ?_
  refine RunL.still rfl rfl rfl (Still.extractN rfl rfl rfl) ?_
  refine RunL.still rfl rfl rfl (Still.extractN rfl rfl rfl) ?_
  refine RunL.still rfl rfl rfl (Still.assign rfl rfl) ?_
  refine RunL.still rfl rfl rfl (Still.assign rfl rfl) ?_
  refine RunL.nil ?_
  refine Ends.then ?_
  refine RunC.seq ?_
  refine RunC.region ?_
  refine RunL.still rfl rfl rfl (Still.loads rfl rfl Tryz.isAgg24 Tryz.sizeOf24 (vs := [_, _]) rfl (fun _ hs => cells_nth (hs.at (i := 4) rfl) ⟨rfl, ⟨rfl, trivial⟩⟩)) ?_
  refine RunL.grows rfl rfl rfl (Grows.call (vs := #[_]) rfl rfl Tryz.call31 (fun w hs => dg_enter_bad bb B cb b w (hdb.sym hs) hcb)) (fun _ _ => ?_)
  refine RunL.still rfl rfl rfl (Still.move rfl rfl) ?_
  refine RunL.still rfl rfl rfl (Still.extractN rfl rfl rfl) ?_
  refine RunL.still rfl rfl rfl (Still.extractN rfl rfl rfl) ?_
  refine RunL.still rfl rfl rfl (Still.assign rfl rfl) ?_
  refine RunL.still rfl rfl rfl (Still.assign rfl rfl) ?_
  refine RunL.nil ?_
  refine Ends.then ?_
  refine RunC.seq ?_
  refine RunC.seq ?_
  refine RunC.region ?_
  refine RunL.still rfl rfl rfl (Still.move rfl rfl) ?_
  refine RunL.still rfl rfl rfl (Still.neq rfl rfl rfl) ?_
  refine RunL.again (t := 40) (u := .bool false) rfl (rfl) ?_
  refine RunL.still rfl rfl rfl (Still.move rfl rfl) ?_
  refine RunL.still rfl rfl rfl (Still.move rfl rfl) ?_
  refine RunL.still rfl rfl rfl (Still.neq rfl rfl rfl) ?_
  refine RunL.again (t := 43) (u := .bool true) rfl (congrArg Value.bool (decide_eq_true hcb)) ?_
  refine RunL.still rfl rfl rfl (Still.pickF rfl rfl rfl) ?_
  refine RunL.nil ?_
  refine Ends.then ?_
  refine RunC.cond_true rfl ?_
  refine RunC.seq ?_
  refine RunC.region ?_
  refine RunL.still rfl rfl rfl (Still.assign rfl rfl) ?_
  refine RunL.still rfl rfl rfl (Still.assign rfl rfl) ?_
  refine RunL.still rfl rfl rfl (Still.assign rfl rfl) ?_
  refine RunL.nil ?_
  refine Ends.then ?_
  refine RunC.ret ?_
  refine Ends.then_ret ?_
  refine Ends.leave (.inl rfl) (fun _ _ ok => results3 Tryz.results64 (Holds.tmp rfl) (Holds.tmp rfl) (Holds.tmp rfl) ok) (fun w1 hs => ?_)
  exact Ret.intro () trivial rfl (HSub.nil _) hs

theorem dg_both_ok (ba : Option Addr) (A : Addr) (ca : Nat) (a : Dia) (bb : Option Addr) (B : Addr) (cb : Nat) (b : Dia) (w : World) (hda : DiaAt w ba A a) (hdb : DiaAt w bb B b) (hca : checkI a = 0) (hcb : checkI b = 0) : Gives Tryz.prog 64 #[diaV ba ca a, diaV bb cb b] w Nil (fun _ : Nat × Nat => True) (fun g => .tuple #[ptrV g.1, ptrV g.2, iv 0]) (fun _ => []) := by
  have ha := (checkI_ok.1 hca).1
  have hb := (checkI_ok.1 hcb).1
  refine fn_of_run (S := Nil) (args := [diaV ba ca a, diaV bb cb b]) (n := 47) (L := []) Tryz.func64 rfl Tryz.ntmps64 (Nat.le_of_ble_eq_true rfl) (Sym.nil _ _) ?_
  change RunC _ _ _ [(0, _), (1, _)] _
  refine RunC.seq ?_
  refine RunC.region ?_
  refine RunL.grows rfl rfl rfl (Grows.box rfl rfl) (fun b2 _ => ?_)
  refine RunL.grows rfl rfl rfl (Grows.box rfl rfl) (fun b3 _ => ?_)
  refine RunL.still rfl rfl rfl (Still.assign rfl rfl) ?_
  refine RunL.still rfl rfl rfl (Still.assign rfl rfl) ?_
  refine RunL.still rfl rfl rfl (Still.assign rfl rfl) ?_
  refine RunL.nil ?_
  refine Ends.then ?_
  refine RunC.seq ?_
  refine RunC.region ?_
  refine RunL.still rfl rfl rfl (Still.loads rfl rfl Tryz.isAgg24 Tryz.sizeOf24 (vs := [_, _]) rfl (fun _ hs => cells_nth (hs.at (i := 1) rfl) ⟨rfl, ⟨rfl, trivial⟩⟩)) ?_
  refine RunL.grows rfl rfl rfl (Grows.call (vs := #[_]) rfl rfl Tryz.call67 (fun w hs => dg_ends ba A ca a w (hda.sym hs))) (fun va _ => ?_)
  refine RunL.still rfl rfl rfl (Still.move rfl rfl) ?_
  refine RunL.still rfl rfl rfl (Still.extractN rfl rfl rfl) ?_
  refine RunL.still rfl rfl rfl (Still.extractN rfl rfl rfl) ?_
  refine RunL.again (t := 17) (u := .bool true) rfl ((congrArg Value.bool (soundB_iff.2 ha))) ?_
  refine RunL.still rfl rfl rfl (Still.assign rfl rfl) ?_
  refine RunL.still rfl rfl rfl (Still.assign rfl rfl) ?_
  refine RunL.nil ?_
  refine Ends.then ?_
  refine RunC.seq ?_
  refine RunC.region ?_
  refine RunL.still rfl rfl rfl (Still.loads rfl rfl Tryz.isAgg24 Tryz.sizeOf24 (vs := [_, _]) rfl (fun _ hs => cells_nth (hs.at (i := 1) rfl) ⟨rfl, ⟨rfl, trivial⟩⟩)) ?_
  refine RunL.grows rfl rfl rfl (Grows.call (vs := #[_]) rfl rfl Tryz.call67 (fun w hs => dg_ends bb B cb b w (hdb.sym hs))) (fun vb _ => ?_)
  refine RunL.still rfl rfl rfl (Still.move rfl rfl) ?_
  refine RunL.still rfl rfl rfl (Still.extractN rfl rfl rfl) ?_
  refine RunL.still rfl rfl rfl (Still.extractN rfl rfl rfl) ?_
  refine RunL.again (t := 22) (u := .bool true) rfl ((congrArg Value.bool (soundB_iff.2 hb))) ?_
  refine RunL.still rfl rfl rfl (Still.assign rfl rfl) ?_
  refine RunL.still rfl rfl rfl (Still.assign rfl rfl) ?_
  refine RunL.nil ?_
  refine Ends.then ?_
  refine RunC.seq ?_
  refine RunC.seq ?_
  refine RunC.region ?_
  refine RunL.still rfl rfl rfl (Still.move rfl rfl) ?_
  refine RunL.still rfl rfl rfl (Still.not rfl rfl) ?_
  refine RunL.still rfl rfl rfl (Still.move rfl rfl) ?_
  refine RunL.still rfl rfl rfl (Still.move rfl rfl) ?_
  refine RunL.still rfl rfl rfl (Still.not rfl rfl) ?_
  refine RunL.still rfl rfl rfl (Still.pickF rfl rfl rfl) ?_
  refine RunL.nil ?_
  refine Ends.then ?_
  refine RunC.cond_false rfl ?_
  refine RunC.skip ?_
  refine Ends.then ?_
  refine RunC.seq ?_
  refine RunC.region ?_
  refine RunL.still rfl rfl rfl (Still.loads rfl rfl Tryz.isAgg24 Tryz.sizeOf24 (vs := [_, _]) rfl (fun _ hs => cells_nth (hs.at (i := 3) rfl) ⟨rfl, ⟨rfl, trivial⟩⟩)) ?_
  refine RunL.grows rfl rfl rfl (Grows.call (vs := #[_]) rfl rfl Tryz.call31 (fun w hs => dg_enter_ok ba A ca a w (hda.sym hs) hca)) (fun ⟨xa, ya⟩ _ => ?_)
  refine RunL.still rfl rfl rfl (Still.move rfl rfl) ?_
  refine RunL.still rfl rfl rfl (Still.extractN rfl rfl rfl) ?_
  refine RunL.still rfl rfl rfl (Still.extractN rfl rfl rfl) ?_
  refine RunL.still rfl rfl rfl (Still.assign rfl rfl) ?_
  refine RunL.still rfl rfl rfl (Still.assign rfl rfl) ?_
  refine RunL.nil ?_
  refine Ends.then ?_
  refine RunC.seq ?_
  refine RunC.region ?_
  refine RunL.still rfl rfl rfl (Still.loads rfl rfl Tryz.isAgg24 Tryz.sizeOf24 (vs := [_, _]) rfl (fun _ hs => cells_nth (hs.at (i := 4) rfl) ⟨rfl, ⟨rfl, trivial⟩⟩)) ?_
  refine RunL.grows rfl rfl rfl (Grows.call (vs := #[_]) rfl rfl Tryz.call31 (fun w hs => dg_enter_ok bb B cb b w (hdb.sym hs) hcb)) (fun ⟨xb, yb⟩ _ => ?_)
  refine RunL.still rfl rfl rfl (Still.move rfl rfl) ?_
  refine RunL.still rfl rfl rfl (Still.extractN rfl rfl rfl) ?_
  refine RunL.still rfl rfl rfl (Still.extractN rfl rfl rfl) ?_
  refine RunL.still rfl rfl rfl (Still.assign rfl rfl) ?_
  refine RunL.still rfl rfl rfl (Still.assign rfl rfl) ?_
  refine RunL.nil ?_
  refine Ends.then ?_
  refine RunC.seq ?_
  refine RunC.seq ?_
  refine RunC.region ?_
  refine RunL.still rfl rfl rfl (Still.move rfl rfl) ?_
  refine RunL.still rfl rfl rfl (Still.neq rfl rfl rfl) ?_
  refine RunL.again (t := 40) (u := .bool false) rfl (rfl) ?_
  refine RunL.still rfl rfl rfl (Still.move rfl rfl) ?_
  refine RunL.still rfl rfl rfl (Still.move rfl rfl) ?_
  refine RunL.still rfl rfl rfl (Still.neq rfl rfl rfl) ?_
  refine RunL.again (t := 43) (u := .bool false) rfl (rfl) ?_
  refine RunL.still rfl rfl rfl (Still.pickF rfl rfl rfl) ?_
  refine RunL.nil ?_
  refine Ends.then ?_
  refine RunC.cond_false rfl ?_
  refine RunC.skip ?_
  refine Ends.then ?_
  refine RunC.seq ?_
  refine RunC.region ?_
  refine RunL.still rfl rfl rfl (Still.move rfl rfl) ?_
  refine RunL.still rfl rfl rfl (Still.move rfl rfl) ?_
  refine RunL.still rfl rfl rfl (Still.assign rfl rfl) ?_
  refine RunL.still rfl rfl rfl (Still.assign rfl rfl) ?_
  refine RunL.still rfl rfl rfl (Still.assign rfl rfl) ?_
  refine RunL.nil ?_
  refine Ends.then ?_
  refine RunC.ret ?_
  refine Ends.leave (.inl rfl) (fun _ _ ok => results3 Tryz.results64 (Holds.tmp rfl) (Holds.tmp rfl) (Holds.tmp rfl) ok) (fun w1 hs => ?_)
  exact Ret.intro (xa, xb) trivial rfl (HSub.nil _) hs

theorem dg_union (ba : Option Addr) (A : Addr) (ca : Nat) (a : Dia) (bb : Option Addr) (B : Addr) (cb : Nat) (b : Dia) (w : World) (hda : DiaAt w ba A a) (hdb : DiaAt w bb B b) (sa : SoundP a) (sb : SoundP b) (hu : ¬ uniBad a b) : Gives Tryz.prog 65 #[diaV ba ca a, diaV bb cb b] w Nil (fun q : Option Addr × Nat => OKB q (uniD a b).cross.length) (fun q => diaV q.1 q.2 (uniD a b)) (fun q => [ownD q (uniD a b)]) := by
  have a200 := sa.1
  have al0 := sa.2.1
  have al1 := sa.2.2.1
  have b200 := sb.1
  have bl0 := sb.2.1
  have bl1 := sb.2.2.1
  have hu1 : a.cross.length + b.cross.length ≤ 200 := Nat.le_of_not_lt fun k => hu (.inl k)
  have hu2 : a.loops + b.loops ≤ 200 := Int.not_lt.1 fun k => hu (.inr k)
  refine fn_of_run (S := Nil) (args := [diaV ba ca a, diaV bb cb b]) (n := 48) (L := []) Tryz.func65 rfl Tryz.ntmps65 (Nat.le_of_ble_eq_true rfl) (Sym.nil _ _) ?_
  change RunC _ _ _ [(0, _), (1, _)] _
  refine RunC.seq ?_
  refine RunC.region ?_
  refine RunL.grows rfl rfl rfl (Grows.box rfl rfl) (fun b2 _ => ?_)
  refine RunL.grows rfl rfl rfl (Grows.box rfl rfl) (fun b3 _ => ?_)
  refine RunL.grows rfl rfl rfl (Grows.alloc rfl Tryz.zeroValue24) (fun b4 _ => ?_)
  refine RunL.nil ?_
  refine Ends.then ?_
  refine RunC.seq ?_
  refine RunC.meetG (γ := Nat × Value) (keep := [(2, _), (3, _), (4, _)]) (hkeep := [_, _, _]) (fun (b5, v) => Shape v a.cross.length) (fun (b5, v) => [(5, .pointer (some ⟨b5, 0, none⟩))]) (fun (b5, v) => [HL.obj b5 (.cells #[v, iv (a.loops + b.loops)] 24 (0, 0)), HL.own 62 5 v a.cross.length (a.cross.flatMap encCr)]) (Fr.Sub.cons rfl (Fr.Sub.cons rfl (Fr.Sub.cons rfl (Fr.Sub.nil _)))) (HSub.pick 0 rfl (HSub.pick 0 rfl (HSub.pick 0 rfl (HSub.nil _)))) ?_ ?_
  ·
    refine RunC.draw 10 (.still 0 (.still 1 (.still 3 (.still 4 (.still 5 (.still 6 (.still 7 (.two 2 (.still 8 (.one 9 .done)) 9 (.one 2 (.still 8 .done)))))))))) (by kernel_rfl) (by kernel_rfl) ?_
    refine RunG.still rfl rfl rfl rfl (Still.fieldAddrL (off := 0) (off' := 0) rfl rfl Tryz.underlying24 rfl Tryz.sizeOf22 rfl) ?_
    refine RunG.still rfl rfl rfl rfl (Still.load rfl rfl Tryz.isAgg22 (fun _ hs => cell_nth (hs.at (i := 2) rfl) rfl)) ?_
    refine RunG.still rfl rfl rfl rfl (Still.fieldAddrL (off := 0) (off' := 1) rfl rfl Tryz.underlying24 rfl Tryz.sizeOf3 rfl) ?_
    refine RunG.still rfl rfl rfl rfl (Still.load rfl rfl Tryz.isAgg3 (fun _ hs => cell_nth (hs.at (i := 2) rfl) rfl)) ?_
    refine RunG.still rfl rfl rfl rfl (Still.fieldAddrL (off := 0) (off' := 1) rfl rfl Tryz.underlying24 rfl Tryz.sizeOf3 rfl) ?_
    refine RunG.still rfl rfl rfl rfl (Still.load rfl rfl Tryz.isAgg3 (fun _ hs => cell_nth (hs.at (i := 1) rfl) rfl)) ?_
    refine RunG.still rfl rfl rfl rfl (Still.add rfl rfl rfl (fits64 (by omega) (by omega))) ?_
    refine RunG.two ?_ ?_
    ·
      refine RunG.grows rfl rfl rfl rfl (Grows.call (vs := #[_]) rfl rfl Tryz.call96 (fun w hs => dg_Clone ba A ca a w (hda.sym hs) a200)) (fun v11 hv11 => ?_)
      obtain ⟨vb3, vc3, hvv3, hvb3⟩ := hv11
      subst hvv3
      refine RunG.still rfl rfl rfl rfl (Still.build_1_1 (fun x0_0 x1_0 => .agg #[x0_0, x1_0]) rfl rfl rfl (fun _ => by kernel_rfl)) ?_
      refine RunG.grows rfl rfl rfl rfl (Grows.alloc rfl Tryz.zeroValue24) (fun b5 _ => ?_)
      refine RunG.done ?_
      show RunL _ _ _ [_] _ _
      refine RunL.does0 rfl rfl (Does.store rfl rfl rfl (i := 0) rfl Tryz.sizeOf24 rfl (rfl) rfl) (fun _ _ => ?_)
      refine RunL.nil ?_
      exact Ends.meetG (b5, .slice vb3 a.cross.length vc3) ⟨vb3, vc3, rfl, hvb3⟩ (Fr.Sub.cons rfl (Fr.Sub.nil _)) (Fr.Sub.cons rfl (Fr.Sub.cons rfl (Fr.Sub.cons rfl (Fr.Sub.nil _)))) (HSub.pick 0 rfl (HSub.pick 0 rfl (HSub.pick 0 rfl (HSub.pick 0 rfl (HSub.pick 0 rfl (HSub.nil _))))))
    ·
      refine RunG.grows rfl rfl rfl rfl (Grows.alloc rfl Tryz.zeroValue24) (fun b5 _ => ?_)
      refine RunG.grows rfl rfl rfl rfl (Grows.call (vs := #[_]) rfl rfl Tryz.call96 (fun w hs => dg_Clone ba A ca a w (hda.sym hs) a200)) (fun v11 hv11 => ?_)
      obtain ⟨vb3, vc3, hvv3, hvb3⟩ := hv11
      subst hvv3
      refine RunG.still rfl rfl rfl rfl (Still.build_1_1 (fun x0_0 x1_0 => .agg #[x0_0, x1_0]) rfl rfl rfl (fun _ => by kernel_rfl)) ?_
      refine RunG.done ?_
      show RunL _ _ _ [_] _ _
      refine RunL.does0 rfl rfl (Does.store rfl rfl rfl (i := 1) rfl Tryz.sizeOf24 rfl (rfl) rfl) (fun _ _ => ?_)
      refine RunL.nil ?_
      exact Ends.meetG (b5, .slice vb3 a.cross.length vc3) ⟨vb3, vc3, rfl, hvb3⟩ (Fr.Sub.cons rfl (Fr.Sub.nil _)) (Fr.Sub.cons rfl (Fr.Sub.cons rfl (Fr.Sub.cons rfl (Fr.Sub.nil _)))) (HSub.pick 1 rfl (HSub.pick 0 rfl (HSub.pick 0 rfl (HSub.pick 0 rfl (HSub.pick 0 rfl (HSub.nil _))))))
  · rintro ⟨b5, v⟩ hv0
    obtain ⟨vb0, vc0, hvv0, hvb0⟩ := hv0
    change v = _ at hvv0
    subst hvv0
    refine Ends.then ?_
    refine RunC.seq ?_
    refine RunC.seq ?_
    refine RunC.region ?_
    refine RunL.still rfl rfl rfl (Still.fieldAddrL (off := 0) (off' := 0) rfl rfl Tryz.underlying24 rfl Tryz.sizeOf22 rfl) ?_
    refine RunL.still rfl rfl rfl (Still.load rfl rfl Tryz.isAgg22 (fun _ hs => cell_nth (hs.at (i := 3) rfl) rfl)) ?_
    refine RunL.still rfl rfl rfl (Still.lenSlice rfl rfl Tryz.underlying22) ?_
    refine RunL.still rfl rfl rfl (Still.move rfl rfl) ?_
    refine RunL.nil ?_
    refine Ends.then ?_
    refine RunC.block ?_
    refine RunC.loop2 (γ := Value × Nat) (keep := [(2, _), (4, _), (5, _), (19, _), (20, _)]) (hkeep := [_, _, _]) (fun (v, c) => c ≤ b.cross.length) (fun (v, c) => b.cross.length - c) (fun (v, c) => [(21, iv c)]) (fun (v, c) => [HL.obj b5 (.cells #[v, iv (a.loops + b.loops)] 24 (0, 0)), HL.own 62 5 v (a.cross.length + c) ((a.cross ++ (b.cross.take c).map (shCr (2 * (a.cross.length : Int)))).flatMap encCr)]) (.slice vb0 a.cross.length vc0, 0) (by omega) (Fr.Sub.cons rfl (Fr.Sub.nil _)) (Fr.Sub.cons rfl (Fr.Sub.cons rfl (Fr.Sub.cons rfl (Fr.Sub.cons rfl (Fr.Sub.cons rfl (Fr.Sub.nil _)))))) (HSub.pick 0 rfl (HSub.pick 0 (by rw [List.take_zero, List.map_nil, List.append_nil]; rfl) (HSub.pick 0 rfl (HSub.pick 0 rfl (HSub.pick 0 rfl (HSub.nil _)))))) ?_
    rintro ⟨v, c⟩ hcl
    refine RunC.seq ?_
    refine RunC.region ?_
    refine RunL.still rfl rfl rfl (Still.lss rfl rfl rfl) ?_
    refine RunL.nil ?_
    refine Ends.then ?_
    refine RunC.seq ?_
    refine RunC.cond rfl (fun h22 => ?_) (fun h22 => ?_)
    · have h22 := of_decide_eq_true h22
      have hcl : c ≤ b.cross.length := hcl
      obtain ⟨x, hx⟩ := get_of_lt (l := b.cross) (i := c) (by omega)
      refine RunC.skip ?_
      refine Ends.then ?_
      refine RunC.seq ?_
      refine RunC.block ?_
      refine RunC.seq ?_
      refine RunC.region ?_
      refine RunL.still rfl rfl rfl (Still.indexSliceN rfl rfl rfl Tryz.underlying22 Tryz.sizeOf62 (hdb.base (by omega)) (by omega)) ?_
      refine RunL.still rfl rfl rfl (Still.loads rfl rfl Tryz.isAgg62 Tryz.sizeOf62 (vs := encCr x) rfl (fun _ hs => Cells.base0 (hdb.cross hx) hs)) ?_
      refine RunL.grows rfl rfl rfl (Grows.alloc rfl Tryz.zeroValue62) (fun b7 _ => ?_)
      refine RunL.does0 rfl rfl (Does.store rfl rfl rfl (i := 0) rfl Tryz.sizeOf62 rfl (rfl) rfl) (fun _ _ => ?_)
      refine RunL.conv (fun _ hs => Sym.obj_own (k := 5) (n := 1) hs rfl (by omega)) ?_
      refine RunL.nil ?_
      refine Ends.then ?_
      refine RunC.seq ?_
      refine RunC.seq ?_
      refine RunC.region ?_
      refine RunL.still rfl rfl rfl (Still.move rfl rfl) ?_
      refine RunL.nil ?_
      refine Ends.then ?_
      refine RunC.block ?_
      refine RunC.loop2 (γ := Nat) (keep := [(2, _), (4, _), (5, _), (7, _), (19, _), (20, _), (21, _)]) (hkeep := [_, _, _, _, _]) (fun p => p ≤ 4) (fun p => 4 - p) (fun p => [(25, iv p)]) (fun p => [HL.own 62 5 (.slice (some ⟨b7, 0, none⟩) 1 1) 1 (encCr (shTo (2 * (a.cross.length : Int)) x p))]) 0 (by omega) (Fr.Sub.cons rfl (Fr.Sub.nil _)) (Fr.Sub.cons rfl (Fr.Sub.cons rfl (Fr.Sub.cons rfl (Fr.Sub.cons rfl (Fr.Sub.cons rfl (Fr.Sub.cons rfl (Fr.Sub.cons rfl (Fr.Sub.nil _)))))))) (HSub.pick 0 rfl (HSub.pick 0 rfl (HSub.pick 0 rfl (HSub.pick 0 rfl (HSub.pick 0 rfl (HSub.pick 0 rfl (HSub.nil _))))))) ?_
      rintro p hp
      refine RunC.seq ?_
      refine RunC.region ?_
      refine RunL.still rfl rfl rfl (Still.lss rfl rfl rfl) ?_
      refine RunL.nil ?_
      refine Ends.then ?_
      refine RunC.seq ?_
      refine RunC.cond rfl (fun h26 => ?_) (fun h26 => ?_)
      · have h26 := of_decide_eq_true h26
        have hp4 : p < 4 := by omega
        have hxp : 0 ≤ x.arc p ∧ x.arc p < 2 * (b.cross.length : Int) := (sb.2.2.2.1 x (List.mem_of_getElem? hx)).2 p hp4
        refine RunC.skip ?_
        refine Ends.then ?_
        refine RunC.seq ?_
        refine RunC.block ?_
        refine RunC.seq ?_
        refine RunC.region ?_
        refine RunL.still rfl rfl rfl (Still.move rfl rfl) ?_
        refine RunL.still rfl rfl rfl (Still.assign rfl rfl) ?_
        refine RunL.nil ?_
        refine Ends.then ?_
        refine RunC.draw 11 (.still 0 (.still 1 (.still 2 (.still 3 (.still 4 (.still 5 (.still 6 (.still 7 (.still 8 (.still 9 (.still 10 .done))))))))))) (by kernel_rfl) (by kernel_rfl) ?_
        refine RunG.still rfl rfl rfl rfl (Still.move rfl rfl) ?_
        refine RunG.still rfl rfl rfl rfl (Still.fieldAddrA (off := 0) rfl rfl Tryz.underlying62 rfl Tryz.sizeOf60 rfl) ?_
        refine RunG.still rfl rfl rfl rfl (Still.indexArrN rfl rfl rfl Tryz.underlying60 Tryz.sizeOf3 (by omega)) ?_
        refine RunG.still rfl rfl rfl rfl (Still.load rfl rfl Tryz.isAgg3 (fun w hs => own_at2 (hs.own (i := 0) rfl) ((show (encCr (shTo (2 * (a.cross.length : Int)) x p))[0 + p * 1]? = _ by rw [Nat.zero_add, Nat.mul_one]; exact shTo_get _ _ hp4)))) ?_
        refine RunG.still rfl rfl rfl rfl (Still.fieldAddrL (off := 0) (off' := 0) rfl rfl Tryz.underlying24 rfl Tryz.sizeOf22 rfl) ?_
        refine RunG.still rfl rfl rfl rfl (Still.load rfl rfl Tryz.isAgg22 (fun _ hs => cell_nth (hs.at (i := 5) rfl) rfl)) ?_
        refine RunG.still rfl rfl rfl rfl (Still.lenSlice rfl rfl Tryz.underlying22) ?_
        refine RunG.still rfl rfl rfl rfl (Still.mul rfl rfl rfl (fits64 (by omega) (by omega))) ?_
        refine RunG.still rfl rfl rfl rfl (Still.add rfl rfl rfl (fits64 (by omega) (by omega))) ?_
        refine RunG.still rfl rfl rfl rfl (Still.fieldAddrA (off := 0) rfl rfl Tryz.underlying62 rfl Tryz.sizeOf60 rfl) ?_
        refine RunG.still rfl rfl rfl rfl (Still.indexArrN rfl rfl rfl Tryz.underlying60 Tryz.sizeOf3 (by omega)) ?_
        refine RunG.done ?_
        show RunL _ _ _ [_] _ _
        refine RunL.does0 rfl rfl (Does.storeOwn1 (xs' := (encCr (shTo (2 * (a.cross.length : Int)) x (p + 1)))) rfl rfl (add_add _ _ _) rfl (i := 0) rfl Tryz.sizeOf3 rfl (by rw [encCr_len]; omega) (by rw [Nat.zero_add, Nat.mul_one]; exact shTo_set _ _ hp4)) (fun _ _ => ?_)
        refine RunL.nil ?_
        refine Ends.block ?_
        refine Ends.then ?_
        refine RunC.region ?_
        refine RunL.still rfl rfl rfl (Still.add rfl rfl rfl (fits64 (by omega) (by omega))) ?_
        refine RunL.still rfl rfl rfl (Still.move rfl rfl) ?_
        refine RunL.nil ?_
        refine Ends.again (p + 1) ?_ ?_ (Fr.Sub.app ?_ ?_) ?_
        · show _; omega
        · show _ < _; omega
        · exact Fr.Sub.cons rfl (Fr.Sub.nil _)
        · exact Fr.Sub.cons rfl (Fr.Sub.cons rfl (Fr.Sub.cons rfl (Fr.Sub.cons rfl (Fr.Sub.cons rfl (Fr.Sub.cons rfl (Fr.Sub.cons rfl (Fr.Sub.nil _)))))))
        · exact HSub.pick 0 rfl (HSub.pick 0 rfl (HSub.pick 0 rfl (HSub.pick 0 rfl (HSub.pick 0 rfl (HSub.pick 0 rfl (HSub.nil _))))))
      · have h26 := of_decide_eq_false h26
        obtain rfl : p = 4 := by omega
        refine RunC.exit ?_
        refine Ends.then_exit ?_
        refine Ends.then_exit ?_
        refine Ends.block_exit ?_
        refine Ends.then ?_
        refine RunC.region ?_
        refine RunL.still rfl rfl rfl (Still.fieldAddrL (off := 0) (off' := 0) rfl rfl Tryz.underlying24 rfl Tryz.sizeOf22 rfl) ?_
        refine RunL.still rfl rfl rfl (Still.load rfl rfl Tryz.isAgg22 (fun _ hs => cell_nth (hs.at (i := 1) rfl) rfl)) ?_
        refine RunL.still rfl rfl rfl (Still.loads rfl rfl Tryz.isAgg62 Tryz.sizeOf62 (vs := encCr (shCr (2 * (a.cross.length : Int)) x)) rfl (fun _ hs => own_cells (i := 0) (hs.own (i := 0) rfl) (fun j u h => by rw [Nat.zero_add]; exact h))) ?_
        refine RunL.grows rfl rfl rfl (Grows.slice1 rfl rfl Tryz.underlying22 Tryz.sizeOf62 rfl Tryz.zeroValue62 (by decide)) (fun b43 _ => ?_)
        refine RunL.does rfl rfl rfl (Does.appendTo (n' := (a.cross.length + (c + 1))) (xs' := (((a.cross ++ (b.cross.take c).map (shCr (2 * (a.cross.length : Int)))) ++ [shCr (2 * (a.cross.length : Int)) x]).flatMap encCr)) (news := [_, _, _, _, _]) rfl rfl rfl rfl (i := 3) rfl Tryz.underlying22 (by kernel_rfl : (_ : Option _) = some (some (.agg #[.int .i64 0, .int .i64 0, .int .i64 0, .int .i64 0, .int .i64 0]), 5, 40)) rfl rfl (fun _ hs => cells_nth (hs.at (i := 0) rfl) ⟨rfl, ⟨rfl, ⟨rfl, ⟨rfl, ⟨rfl, trivial⟩⟩⟩⟩⟩) rfl rfl (by omega) (by omega) (rfl) (cr_snoc rfl)) (fun v44 hv44 => ?_)
        refine RunL.know (fun _ hs => own_shape (hs.own (i := 3) rfl)) (fun hsh2 => ?_)
        obtain ⟨vb2, vc2, hvv2, hvb2⟩ := hsh2
        subst hvv2
        refine RunL.still rfl rfl rfl (Still.fieldAddrL (off := 0) (off' := 0) rfl rfl Tryz.underlying24 rfl Tryz.sizeOf22 rfl) ?_
        refine RunL.does0 rfl rfl (Does.store1 rfl rfl rfl (i := 2) rfl Tryz.sizeOf22 rfl (rfl)) (fun _ _ => ?_)
        refine RunL.nil ?_
        refine Ends.block ?_
        refine Ends.then ?_
        refine RunC.region ?_
        refine RunL.still rfl rfl rfl (Still.add rfl rfl rfl (fits64 (by omega) (by omega))) ?_
        refine RunL.still rfl rfl rfl (Still.move rfl rfl) ?_
        refine RunL.nil ?_
        refine Ends.again ((Value.slice vb2 (a.cross.length + (c + 1)) vc2), c + 1) ?_ ?_ (Fr.Sub.app ?_ ?_) ?_
        · show c + 1 ≤ _; omega
        · show _ - (c + 1) < _ - c; omega
        · exact Fr.Sub.cons rfl (Fr.Sub.nil _)
        · exact Fr.Sub.cons rfl (Fr.Sub.cons rfl (Fr.Sub.cons rfl (Fr.Sub.cons rfl (Fr.Sub.cons rfl (Fr.Sub.nil _)))))
        · exact HSub.pick 2 rfl (HSub.pick 2 (by rw [List.take_add_one, hx]; simp only [Option.toList_some, List.map_append, List.map_cons, List.map_nil, List.append_assoc]; rfl) (HSub.pick 2 rfl (HSub.pick 2 rfl (HSub.pick 2 rfl (HSub.nil _)))))
    · have h22 := of_decide_eq_false h22
      have hcl : c ≤ b.cross.length := hcl
      obtain rfl : c = b.cross.length := by omega
      refine RunC.exit ?_
      refine Ends.then_exit ?_
      refine Ends.then_exit ?_
      refine Ends.block_exit ?_
      refine Ends.then ?_
      refine RunC.seq ?_
      refine RunC.region ?_
      refine RunL.know (fun _ hs => own_shape (hs.own (i := 1) rfl)) (fun hsh2 => ?_)
      obtain ⟨vb2, vc2, hvv2, hvb2⟩ := hsh2
      subst hvv2
      refine RunL.still rfl rfl rfl (Still.loads rfl rfl Tryz.isAgg24 Tryz.sizeOf24 (vs := [_, _]) rfl (fun _ hs => cells_nth (hs.at (i := 0) rfl) ⟨rfl, ⟨rfl, trivial⟩⟩)) ?_
      refine RunL.does0 rfl rfl (Does.store rfl rfl rfl (i := 2) rfl Tryz.sizeOf24 rfl (rfl) rfl) (fun _ _ => ?_)
      refine RunL.nil ?_
      refine Ends.then ?_
      refine RunC.ret ?_
      refine Ends.leave (.inl rfl) (fun _ _ ok => results1 Tryz.results65 (Holds.cell rfl (fun _ hs => load_cells (vs := [_, _]) Tryz.isAgg24 Tryz.sizeOf24 rfl (cells_nth (hs.at (i := 2) rfl) ⟨rfl, ⟨rfl, trivial⟩⟩))) ok) (fun w1 hs => ?_)
      exact Ret.intro (vb2, vc2) (by rw [OKB, uniD_len]; exact hvb2) (by show _ = diaV vb2 vc2 (uniD a b); simp only [diaV, uniD_len]; rfl) (HSub.pick 1 (by rw [ownD_uni]; rfl) (HSub.nil _)) hs

end Go.Proofs
/- Unions and sums of the program, chapter 22: the functions that check. -/
namespace Go.Proofs
open Go Go.V
set_option maxRecDepth 20000
theorem dg_Union_d1 (ba : Option Addr) (A : Addr) (ca : Nat) (a : Dia) (bb : Option Addr) (B : Addr) (cb : Nat) (b : Dia) (w : World) (hda : DiaAt w ba A a) (hdb : DiaAt w bb B b) (ha : ¬ SoundP a) : Gives Tryz.prog 28 #[diaV ba ca a, diaV bb cb b] w Nil (fun _ : Unit => True) (fun _ => .tuple #[.agg #[.slice none 0 0, iv 0], iv 220]) (fun _ => []) := by
  refine fn_of_run (S := Nil) (args := [diaV ba ca a, diaV bb cb b]) (n := 40) (L := []) Tryz.func28 rfl Tryz.ntmps28 (Nat.le_of_ble_eq_true rfl) (Sym.nil _ _) ?_
  change RunC _ _ _ [(0, _), (1, _)] _
  refine RunC.seq ?_
  refine RunC.region ?_
  refine RunL.grows rfl rfl rfl (Grows.box rfl rfl) (fun b2 _ => ?_)
  refine RunL.grows rfl rfl rfl (Grows.box rfl rfl) (fun b3 _ => ?_)
  refine RunL.grows rfl rfl rfl (Grows.alloc rfl Tryz.zeroValue24) (fun b4 _ => ?_)
  refine RunL.still rfl rfl rfl (Still.assign rfl rfl) ?_
  refine RunL.nil ?_
  refine Ends.then ?_
  refine RunC.seq ?_
  refine RunC.seq ?_
  refine RunC.region ?_
  refine RunL.still rfl rfl rfl (Still.loads rfl rfl Tryz.isAgg24 Tryz.sizeOf24 (vs := [_, _]) rfl (fun _ hs => cells_nth (hs.at (i := 2) rfl) ⟨rfl, ⟨rfl, trivial⟩⟩)) ?_
  refine RunL.still rfl rfl rfl (Still.loads rfl rfl Tryz.isAgg24 Tryz.sizeOf24 (vs := [_, _]) rfl (fun _ hs => cells_nth (hs.at (i := 1) rfl) ⟨rfl, ⟨rfl, trivial⟩⟩)) ?_
  refine RunL.grows rfl rfl rfl (Grows.call (vs := #[_, _]) rfl rfl Tryz.call64 (fun w hs => dg_both_d1 ba A ca a bb B cb b w (hda.sym hs) (hdb.sym hs) ha)) (fun _ _ => ?_)
  refine RunL.still rfl rfl rfl (Still.move rfl rfl) ?_
  refine RunL.still rfl rfl rfl (Still.extractN rfl rfl rfl) ?_
  refine RunL.still rfl rfl rfl (Still.extractN rfl rfl rfl) ?_
  refine RunL.still rfl rfl rfl (Still.extractN rfl rfl rfl) ?_
  refine RunL.still rfl rfl rfl (Still.assign rfl rfl) ?_
  refine RunL.still rfl rfl rfl (Still.assign rfl rfl) ?_
  refine RunL.still rfl rfl rfl (Still.assign rfl rfl) ?_
  refine RunL.nil ?_
  refine Ends.then ?_
  refine RunC.seq ?_
  refine RunC.region ?_
  refine RunL.still rfl rfl rfl (Still.move rfl rfl) ?_
  refine RunL.still rfl rfl rfl (Still.neq rfl rfl rfl) ?_
  refine RunL.again (t := 17) (u := .bool true) rfl (rfl) ?_
  refine RunL.nil ?_
  refine Ends.then ?_
  refine RunC.cond_true rfl ?_
  refine RunC.seq ?_
  refine RunC.region ?_
  refine RunL.still rfl rfl rfl (Still.build_0 (.agg #[.slice none 0 0, .int .i64 0]) rfl (fun _ => by kernel_rfl)) ?_
  refine RunL.still rfl rfl rfl (Still.move rfl rfl) ?_
  refine RunL.does0 rfl rfl (Does.store rfl rfl rfl (i := 0) rfl Tryz.sizeOf24 rfl (rfl) rfl) (fun _ _ => ?_)
  refine RunL.still rfl rfl rfl (Still.assign rfl rfl) ?_
  refine RunL.nil ?_
  refine Ends.then ?_
  refine RunC.ret ?_
  refine Ends.then_ret ?_
  refine Ends.leave (.inl rfl) (fun _ _ ok => results2 Tryz.results28 (Holds.cell rfl (fun _ hs => load_cells (vs := [_, _]) Tryz.isAgg24 Tryz.sizeOf24 rfl (cells_nth (hs.at (i := 0) rfl) ⟨rfl, ⟨rfl, trivial⟩⟩))) (Holds.tmp rfl) ok) (fun w1 hs => ?_)
  exact Ret.intro () trivial rfl (HSub.nil _) hs

theorem dg_Union_d2 (ba : Option Addr) (A : Addr) (ca : Nat) (a : Dia) (bb : Option Addr) (B : Addr) (cb : Nat) (b : Dia) (w : World) (hda : DiaAt w ba A a) (hdb : DiaAt w bb B b) (ha : SoundP a) (hb : ¬ SoundP b) : Gives Tryz.prog 28 #[diaV ba ca a, diaV bb cb b] w Nil (fun _ : Unit => True) (fun _ => .tuple #[.agg #[.slice none 0 0, iv 0], iv 220]) (fun _ => []) := by
  refine fn_of_run (S := Nil) (args := [diaV ba ca a, diaV bb cb b]) (n := 40) (L := []) Tryz.func28 rfl Tryz.ntmps28 (Nat.le_of_ble_eq_true rfl) (Sym.nil _ _) ?_
  change RunC _ _ _ [(0, _), (1, _)] _
  refine RunC.seq ?_
  refine RunC.region ?_
  refine RunL.grows rfl rfl rfl (Grows.box rfl rfl) (fun b2 _ => ?_)
  refine RunL.grows rfl rfl rfl (Grows.box rfl rfl) (fun b3 _ => ?_)
  refine RunL.grows rfl rfl rfl (Grows.alloc rfl Tryz.zeroValue24) (fun b4 _ => ?_)
  refine RunL.still rfl rfl rfl (Still.assign rfl rfl) ?_
  refine RunL.nil ?_
  refine Ends.then ?_
  refine RunC.seq ?_
  refine RunC.seq ?_
  refine RunC.region ?_
  refine RunL.still rfl rfl rfl (Still.loads rfl rfl Tryz.isAgg24 Tryz.sizeOf24 (vs := [_, _]) rfl (fun _ hs => cells_nth (hs.at (i := 2) rfl) ⟨rfl, ⟨rfl, trivial⟩⟩)) ?_
  refine RunL.still rfl rfl rfl (Still.loads rfl rfl Tryz.isAgg24 Tryz.sizeOf24 (vs := [_, _]) rfl (fun _ hs => cells_nth (hs.at (i := 1) rfl) ⟨rfl, ⟨rfl, trivial⟩⟩)) ?_
  refine RunL.grows rfl rfl rfl (Grows.call (vs := #[_, _]) rfl rfl Tryz.call64 (fun w hs => dg_both_d2 ba A ca a bb B cb b w (hda.sym hs) (hdb.sym hs) ha hb)) (fun _ _ => ?_)
  refine RunL.still rfl rfl rfl (Still.move rfl rfl) ?_
  refine RunL.still rfl rfl rfl (Still.extractN rfl rfl rfl) ?_
  refine RunL.still rfl rfl rfl (Still.extractN rfl rfl rfl) ?_
  refine RunL.still rfl rfl rfl (Still.extractN rfl rfl rfl) ?_
  refine RunL.still rfl rfl rfl (Still.assign rfl rfl) ?_
  refine RunL.still rfl rfl rfl (Still.assign rfl rfl) ?_
  refine RunL.still rfl rfl rfl (Still.assign rfl rfl) ?_
  refine RunL.nil ?_
  refine Ends.then ?_
  refine RunC.seq ?_
  refine RunC.region ?_
  refine RunL.still rfl rfl rfl (Still.move rfl rfl) ?_
  refine RunL.still rfl rfl rfl (Still.neq rfl rfl rfl) ?_
  refine RunL.again (t := 17) (u := .bool true) rfl (rfl) ?_
  refine RunL.nil ?_
  refine Ends.then ?_
  refine RunC.cond_true rfl ?_
  refine RunC.seq ?_
  refine RunC.region ?_
  refine RunL.still rfl rfl rfl (Still.build_0 (.agg #[.slice none 0 0, .int .i64 0]) rfl (fun _ => by kernel_rfl)) ?_
  refine RunL.still rfl rfl rfl (Still.move rfl rfl) ?_
  refine RunL.does0 rfl rfl (Does.store rfl rfl rfl (i := 0) rfl Tryz.sizeOf24 rfl (rfl) rfl) (fun _ _ => ?_)
  refine RunL.still rfl rfl rfl (Still.assign rfl rfl) ?_
  refine RunL.nil ?_
  refine Ends.then ?_
  refine RunC.ret ?_
  refine Ends.then_ret ?_
  refine Ends.leave (.inl rfl) (fun _ _ ok => results2 Tryz.results28 (Holds.cell rfl (fun _ hs => load_cells (vs := [_, _]) Tryz.isAgg24 Tryz.sizeOf24 rfl (cells_nth (hs.at (i := 0) rfl) ⟨rfl, ⟨rfl, trivial⟩⟩))) (Holds.tmp rfl) ok) (fun w1 hs => ?_)
  exact Ret.intro () trivial rfl (HSub.nil _) hs

theorem dg_Union_p1 (ba : Option Addr) (A : Addr) (ca : Nat) (a : Dia) (bb : Option Addr) (B : Addr) (cb : Nat) (b : Dia) (w : World) (hda : DiaAt w ba A a) (hdb : DiaAt w bb B b) (ha : SoundP a) (hb : SoundP b) (hca : checkI a ≠ 0) : Gives Tryz.prog 28 #[diaV ba ca a, diaV bb cb b] w Nil (fun _ : Unit => True) (fun _ => .tuple #[.agg #[.slice none 0 0, iv 0], iv 221]) (fun _ => []) := by
  refine fn_of_run (S := Nil) (args := [diaV ba ca a, diaV bb cb b]) (n := 40) (L := []) Tryz.func28 rfl Tryz.ntmps28 (Nat.le_of_ble_eq_true rfl) (Sym.nil _ _) ?_
  change RunC _ _ _ [(0, _), (1, _)] _
  refine RunC.seq ?_
  refine RunC.region ?_
  refine RunL.grows rfl rfl rfl (Grows.box rfl rfl) (fun b2 _ => ?_)
  refine RunL.grows rfl rfl rfl (Grows.box rfl rfl) (fun b3 _ => ?_)
  refine RunL.grows rfl rfl rfl (Grows.alloc rfl Tryz.zeroValue24) (fun b4 _ => ?_)
  refine RunL.still rfl rfl rfl (Still.assign rfl rfl) ?_
  refine RunL.nil ?_
  refine Ends.then ?_
  refine RunC.seq ?_
  refine RunC.seq ?_
  refine RunC.region ?_
  refine RunL.still rfl rfl rfl (Still.loads rfl rfl Tryz.isAgg24 Tryz.sizeOf24 (vs := [_, _]) rfl (fun _ hs => cells_nth (hs.at (i := 2) rfl) ⟨rfl, ⟨rfl, trivial⟩⟩)) ?_
  refine RunL.still rfl rfl rfl (Still.loads rfl rfl Tryz.isAgg24 Tryz.sizeOf24 (vs := [_, _]) rfl (fun _ hs => cells_nth (hs.at (i := 1) rfl) ⟨rfl, ⟨rfl, trivial⟩⟩)) ?_
  refine RunL.grows rfl rfl rfl (Grows.call (vs := #[_, _]) rfl rfl Tryz.call64 (fun w hs => dg_both_p1 ba A ca a bb B cb b w (hda.sym hs) (hdb.sym hs) ha hb hca)) (fun _ _ => ?_)
  refine RunL.still rfl rfl rfl (Still.move rfl rfl) ?_
  refine RunL.still rfl rfl rfl (Still.extractN rfl rfl rfl) ?_
  refine RunL.still rfl rfl rfl (Still.extractN rfl rfl rfl) ?_
  refine RunL.still rfl rfl rfl (Still.extractN rfl rfl rfl) ?_
  refine RunL.still rfl rfl rfl (Still.assign rfl rfl) ?_
  refine RunL.still rfl rfl rfl (Still.assign rfl rfl) ?_
  refine RunL.still rfl rfl rfl (Still.assign rfl rfl) ?_
  refine RunL.nil ?_
  refine Ends.then ?_
  refine RunC.seq ?_
  refine RunC.region ?_
  refine RunL.still rfl rfl rfl (Still.move rfl rfl) ?_
  refine RunL.still rfl rfl rfl (Still.neq rfl rfl rfl) ?_
  refine RunL.again (t := 17) (u := .bool true) rfl (rfl) ?_
  refine RunL.nil ?_
  refine Ends.then ?_
  refine RunC.cond_true rfl ?_
  refine RunC.seq ?_
  refine RunC.region ?_
  refine RunL.still rfl rfl rfl (Still.build_0 (.agg #[.slice none 0 0, .int .i64 0]) rfl (fun _ => by kernel_rfl)) ?_
  refine RunL.still rfl rfl rfl (Still.move rfl rfl) ?_
  refine RunL.does0 rfl rfl (Does.store rfl rfl rfl (i := 0) rfl Tryz.sizeOf24 rfl (rfl) rfl) (fun _ _ => ?_)
  refine RunL.still rfl rfl rfl (Still.assign rfl rfl) ?_
  refine RunL.nil ?_
  refine Ends.then ?_
  refine RunC.ret ?_
  refine Ends.then_ret ?_
  refine Ends.leave (.inl rfl) (fun _ _ ok => results2 Tryz.results28 (Holds.cell rfl (fun _ hs => load_cells (vs := [_, _]) Tryz.isAgg24 Tryz.sizeOf24 rfl (cells_nth (hs.at (i := 0) rfl) ⟨rfl, ⟨rfl, trivial⟩⟩))) (Holds.tmp rfl) ok) (fun w1 hs => ?_)
  exact Ret.intro () trivial rfl (HSub.nil _) hs

theorem dg_Union_p2 (ba : Option Addr) (A : Addr) (ca : Nat) (a : Dia) (bb : Option Addr) (B : Addr) (cb : Nat) (b : Dia) (w : World) (hda : DiaAt w ba A a) (hdb : DiaAt w bb B b) (ha : SoundP a) (hb : SoundP b) (hca : checkI a = 0) (hcb : checkI b ≠ 0) : Gives Tryz.prog 28 #[diaV ba ca a, diaV bb cb b] w Nil (fun _ : Unit => True) (fun _ => .tuple #[.agg #[.slice none 0 0, iv 0], iv 221]) (fun _ => []) := by
  refine fn_of_run (S := Nil) (args := [diaV ba ca a, diaV bb cb b]) (n := 40) (L := []) Tryz.func28 rfl Tryz.ntmps28 (Nat.le_of_ble_eq_true rfl) (Sym.nil _ _) ?_
  change RunC _ _ _ [(0, _), (1, _)] _
  refine RunC.seq ?_
  refine RunC.region ?_
  refine RunL.grows rfl rfl rfl (Grows.box rfl rfl) (fun b2 _ => ?_)
  refine RunL.grows rfl rfl rfl (Grows.box rfl rfl) (fun b3 _ => ?_)
  refine RunL.grows rfl rfl rfl (Grows.alloc rfl Tryz.zeroValue24) (fun b4 _ => ?_)
  refine RunL.still rfl rfl rfl (Still.assign rfl rfl) ?_
  refine RunL.nil ?_
  refine Ends.then ?_
  refine RunC.seq ?_
  refine RunC.seq ?_
  refine RunC.region ?_
  refine RunL.still rfl rfl rfl (Still.loads rfl rfl Tryz.isAgg24 Tryz.sizeOf24 (vs := [_, _]) rfl (fun _ hs => cells_nth (hs.at (i := 2) rfl) ⟨rfl, ⟨rfl, trivial⟩⟩)) ?_
  refine RunL.still rfl rfl rfl (Still.loads rfl rfl Tryz.isAgg24 Tryz.sizeOf24 (vs := [_, _]) rfl (fun _ hs => cells_nth (hs.at (i := 1) rfl) ⟨rfl, ⟨rfl, trivial⟩⟩)) ?_
  refine RunL.grows rfl rfl rfl (Grows.call (vs := #[_, _]) rfl rfl Tryz.call64 (fun w hs => dg_both_p2 ba A ca a bb B cb b w (hda.sym hs) (hdb.sym hs) ha hb hca hcb)) (fun _ _ => ?_)
  refine RunL.still rfl rfl rfl (Still.move rfl rfl) ?_
  refine RunL.still rfl rfl rfl (Still.extractN rfl rfl rfl) ?_
  refine RunL.still rfl rfl rfl (Still.extractN rfl rfl rfl) ?_
  refine RunL.still rfl rfl rfl (Still.extractN rfl rfl rfl) ?_
  refine RunL.still rfl rfl rfl (Still.assign rfl rfl) ?_
  refine RunL.still rfl rfl rfl (Still.assign rfl rfl) ?_
  refine RunL.still rfl rfl rfl (Still.assign rfl rfl) ?_
  refine RunL.nil ?_
  refine Ends.then ?_
  refine RunC.seq ?_
  refine RunC.region ?_
  refine RunL.still rfl rfl rfl (Still.move rfl rfl) ?_
  refine RunL.still rfl rfl rfl (Still.neq rfl rfl rfl) ?_
  refine RunL.again (t := 17) (u := .bool true) rfl (rfl) ?_
  refine RunL.nil ?_
  refine Ends.then ?_
  refine RunC.cond_true rfl ?_
  refine RunC.seq ?_
  refine RunC.region ?_
  refine RunL.still rfl rfl rfl (Still.build_0 (.agg #[.slice none 0 0, .int .i64 0]) rfl (fun _ => by kernel_rfl)) ?_
  refine RunL.still rfl rfl rfl (Still.move rfl rfl) ?_
  refine RunL.does0 rfl rfl (Does.store rfl rfl rfl (i := 0) rfl Tryz.sizeOf24 rfl (rfl) rfl) (fun _ _ => ?_)
  refine RunL.still rfl rfl rfl (Still.assign rfl rfl) ?_
  refine RunL.nil ?_
  refine Ends.then ?_
  refine RunC.ret ?_
  refine Ends.then_ret ?_
  refine Ends.leave (.inl rfl) (fun _ _ ok => results2 Tryz.results28 (Holds.cell rfl (fun _ hs => load_cells (vs := [_, _]) Tryz.isAgg24 Tryz.sizeOf24 rfl (cells_nth (hs.at (i := 0) rfl) ⟨rfl, ⟨rfl, trivial⟩⟩))) (Holds.tmp rfl) ok) (fun w1 hs => ?_)
  exact Ret.intro () trivial rfl (HSub.nil _) hs

theorem dg_Union_lim (ba : Option Addr) (A : Addr) (ca : Nat) (a : Dia) (bb : Option Addr) (B : Addr) (cb : Nat) (b : Dia) (w : World) (hda : DiaAt w ba A a) (hdb : DiaAt w bb B b) (hca : checkI a = 0) (hcb : checkI b = 0) (hu : uniBad a b) : Gives Tryz.prog 28 #[diaV ba ca a, diaV bb cb b] w Nil (fun _ : Unit => True) (fun _ => .tuple #[.agg #[.slice none 0 0, iv 0], iv 2]) (fun _ => []) := by
  have sa := (checkI_ok.1 hca).1
  have sb := (checkI_ok.1 hcb).1
  have a200 := sa.1
  have al0 := sa.2.1
  have al1 := sa.2.2.1
  have b200 := sb.1
  have bl0 := sb.2.1
  have bl1 := sb.2.2.1
  have hu2 : 200 < (a.cross.length : Int) + b.cross.length ∨ 200 < a.loops + b.loops := by rcases hu with h | h; (left; omega); exact .inr h
  refine fn_of_run (S := Nil) (args := [diaV ba ca a, diaV bb cb b]) (n := 40) (L := []) Tryz.func28 rfl Tryz.ntmps28 (Nat.le_of_ble_eq_true rfl) (Sym.nil _ _) ?_
  change RunC _ _ _ [(0, _), (1, _)] _
  refine RunC.seq ?_
  refine RunC.region ?_
  refine RunL.grows rfl rfl rfl (Grows.box rfl rfl) (fun b2 _ => ?_)
  refine RunL.grows rfl rfl rfl (Grows.box rfl rfl) (fun b3 _ => ?_)
  refine RunL.grows rfl rfl rfl (Grows.alloc rfl Tryz.zeroValue24) (fun b4 _ => ?_)
  refine RunL.still rfl rfl rfl (Still.assign rfl rfl) ?_
  refine RunL.nil ?_
  refine Ends.then ?_
  refine RunC.seq ?_
  refine RunC.seq ?_
  refine RunC.region ?_
  refine RunL.still rfl rfl rfl (Still.loads rfl rfl Tryz.isAgg24 Tryz.sizeOf24 (vs := [_, _]) rfl (fun _ hs => cells_nth (hs.at (i := 2) rfl) ⟨rfl, ⟨rfl, trivial⟩⟩)) ?_
  refine RunL.still rfl rfl rfl (Still.loads rfl rfl Tryz.isAgg24 Tryz.sizeOf24 (vs := [_, _]) rfl (fun _ hs => cells_nth (hs.at (i := 1) rfl) ⟨rfl, ⟨rfl, trivial⟩⟩)) ?_
  refine RunL.grows rfl rfl rfl (Grows.call (vs := #[_, _]) rfl rfl Tryz.call64 (fun w hs => dg_both_ok ba A ca a bb B cb b w (hda.sym hs) (hdb.sym hs) hca hcb)) (fun bg _ => ?_)
  refine RunL.still rfl rfl rfl (Still.move rfl rfl) ?_
  refine RunL.still rfl rfl rfl (Still.extractN rfl rfl rfl) ?_
  refine RunL.still rfl rfl rfl (Still.extractN rfl rfl rfl) ?_
  refine RunL.still rfl rfl rfl (Still.extractN rfl rfl rfl) ?_
  refine RunL.still rfl rfl rfl (Still.assign rfl rfl) ?_
  refine RunL.still rfl rfl rfl (Still.assign rfl rfl) ?_
  refine RunL.still rfl rfl rfl (Still.assign rfl rfl) ?_
  refine RunL.nil ?_
  refine Ends.then ?_
  refine RunC.seq ?_
  refine RunC.region ?_
  refine RunL.still rfl rfl rfl (Still.move rfl rfl) ?_
  refine RunL.still rfl rfl rfl (Still.neq rfl rfl rfl) ?_
  refine RunL.again (t := 17) (u := .bool false) rfl (rfl) ?_
  refine RunL.nil ?_
  refine Ends.then ?_
  refine RunC.cond_false rfl ?_
  refine RunC.skip ?_
  refine Ends.then ?_
  refine RunC.seq ?_
  refine RunC.seq ?_
  refine RunC.meet1 (chg := [(35, .bool (decide (200 < (a.cross.length : Int) + b.cross.length ∨ 200 < a.loops + b.loops)))]) (keep := [(2, _), (3, _), (4, _)]) (hkeep := [_, _, _]) (Fr.Sub.cons rfl (Fr.Sub.cons rfl (Fr.Sub.cons rfl (Fr.Sub.nil _)))) (HSub.pick 0 rfl (HSub.pick 0 rfl (HSub.pick 0 rfl (HSub.nil _)))) ?_ ?_
  ·
    refine RunC.region ?_
    refine RunL.still rfl rfl rfl (Still.fieldAddrL (off := 0) (off' := 0) rfl rfl Tryz.underlying24 rfl Tryz.sizeOf22 rfl) ?_
    refine RunL.still rfl rfl rfl (Still.load rfl rfl Tryz.isAgg22 (fun _ hs => cell_nth (hs.at (i := 2) rfl) rfl)) ?_
    refine RunL.still rfl rfl rfl (Still.lenSlice rfl rfl Tryz.underlying22) ?_
    refine RunL.still rfl rfl rfl (Still.fieldAddrL (off := 0) (off' := 0) rfl rfl Tryz.underlying24 rfl Tryz.sizeOf22 rfl) ?_
    refine RunL.still rfl rfl rfl (Still.load rfl rfl Tryz.isAgg22 (fun _ hs => cell_nth (hs.at (i := 1) rfl) rfl)) ?_
    refine RunL.still rfl rfl rfl (Still.lenSlice rfl rfl Tryz.underlying22) ?_
    refine RunL.still rfl rfl rfl (Still.add rfl rfl rfl (fits64 (by omega) (by omega))) ?_
    refine RunL.still rfl rfl rfl (Still.gtr rfl rfl rfl) ?_
    refine RunL.still rfl rfl rfl (Still.move rfl rfl) ?_
    refine RunL.split (t := 28) rfl (fun h28 => ?_) (fun h28 => ?_)
    · have h28 := of_decide_eq_true h28
      refine RunL.off rfl rfl rfl ?_
      refine RunL.off rfl rfl rfl ?_
      refine RunL.off rfl rfl rfl ?_
      refine RunL.off rfl rfl rfl ?_
      refine RunL.off rfl rfl rfl ?_
      refine RunL.off rfl rfl rfl ?_
      refine RunL.still rfl rfl rfl (Still.pickT rfl rfl rfl) ?_
      refine RunL.nil ?_
      exact Ends.meet1 (Fr.Sub.cons (by first | exact congrArg (fun b => some (Value.bool b)) (decide_eq_true (by omega)).symm | exact congrArg (fun b => some (Value.bool b)) (decide_eq_false (by omega)).symm | exact congrArg (fun b => some (Value.bool b)) (decide_eq_decide.2 (by omega))) (Fr.Sub.nil _)) (Fr.Sub.cons rfl (Fr.Sub.cons rfl (Fr.Sub.cons rfl (Fr.Sub.nil _)))) (HSub.pick 0 rfl (HSub.pick 0 rfl (HSub.pick 0 rfl (HSub.nil _))))
    · have h28 := of_decide_eq_false h28
      refine RunL.still rfl rfl rfl (Still.fieldAddrL (off := 0) (off' := 1) rfl rfl Tryz.underlying24 rfl Tryz.sizeOf3 rfl) ?_
      refine RunL.still rfl rfl rfl (Still.load rfl rfl Tryz.isAgg3 (fun _ hs => cell_nth (hs.at (i := 2) rfl) rfl)) ?_
      refine RunL.still rfl rfl rfl (Still.fieldAddrL (off := 0) (off' := 1) rfl rfl Tryz.underlying24 rfl Tryz.sizeOf3 rfl) ?_
      refine RunL.still rfl rfl rfl (Still.load rfl rfl Tryz.isAgg3 (fun _ hs => cell_nth (hs.at (i := 1) rfl) rfl)) ?_
      refine RunL.still rfl rfl rfl (Still.add rfl rfl rfl (fits64 (by omega) (by omega))) ?_
      refine RunL.still rfl rfl rfl (Still.gtr rfl rfl rfl) ?_
      refine RunL.still rfl rfl rfl (Still.pickF rfl rfl rfl) ?_
      refine RunL.nil ?_
      exact Ends.meet1 (Fr.Sub.cons (by first | exact congrArg (fun b => some (Value.bool b)) (decide_eq_true (by omega)).symm | exact congrArg (fun b => some (Value.bool b)) (decide_eq_false (by omega)).symm | exact congrArg (fun b => some (Value.bool b)) (decide_eq_decide.2 (by omega))) (Fr.Sub.nil _)) (Fr.Sub.cons rfl (Fr.Sub.cons rfl (Fr.Sub.cons rfl (Fr.Sub.nil _)))) (HSub.pick 0 rfl (HSub.pick 0 rfl (HSub.pick 0 rfl (HSub.nil _))))
  ·
    refine Ends.then ?_
    refine RunC.cond rfl (fun h35 => ?_) (fun h35 => ?_)
    · have h35 := of_decide_eq_true h35
      refine RunC.seq ?_
      refine RunC.region ?_
      refine RunL.still rfl rfl rfl (Still.build_0 (.agg #[.slice none 0 0, .int .i64 0]) rfl (fun _ => by kernel_rfl)) ?_
      refine RunL.does0 rfl rfl (Does.store rfl rfl rfl (i := 0) rfl Tryz.sizeOf24 rfl (rfl) rfl) (fun _ _ => ?_)
      refine RunL.still rfl rfl rfl (Still.assign rfl rfl) ?_
      refine RunL.nil ?_
      refine Ends.then ?_
      refine RunC.ret ?_
      refine Ends.then_ret ?_
      refine Ends.leave (.inl rfl) (fun _ _ ok => results2 Tryz.results28 (Holds.cell rfl (fun _ hs => load_cells (vs := [_, _]) Tryz.isAgg24 Tryz.sizeOf24 rfl (cells_nth (hs.at (i := 0) rfl) ⟨rfl, ⟨rfl, trivial⟩⟩))) (Holds.tmp rfl) ok) (fun w1 hs => ?_)
      exact Ret.intro () trivial rfl (HSub.nil _) hs
    · have h35 := of_decide_eq_false h35
      exact absurd hu2 h35

theorem dg_Union_ok (ba : Option Addr) (A : Addr) (ca : Nat) (a : Dia) (bb : Option Addr) (B : Addr) (cb : Nat) (b : Dia) (w : World) (hda : DiaAt w ba A a) (hdb : DiaAt w bb B b) (hca : checkI a = 0) (hcb : checkI b = 0) (hu : ¬ uniBad a b) : Gives Tryz.prog 28 #[diaV ba ca a, diaV bb cb b] w Nil (fun q : Option Addr × Nat => OKB q (uniD a b).cross.length) (fun q => .tuple #[diaV q.1 q.2 (uniD a b), iv 0]) (fun q => [ownD q (uniD a b)]) := by
  have sa := (checkI_ok.1 hca).1
  have sb := (checkI_ok.1 hcb).1
  have a200 := sa.1
  have al0 := sa.2.1
  have al1 := sa.2.2.1
  have b200 := sb.1
  have bl0 := sb.2.1
  have bl1 := sb.2.2.1
  have hu1 : a.cross.length + b.cross.length ≤ 200 := Nat.le_of_not_lt fun k => hu (.inl k)
  have hu2 : a.loops + b.loops ≤ 200 := Int.not_lt.1 fun k => hu (.inr k)
  refine fn_of_run (S := Nil) (args := [diaV ba ca a, diaV bb cb b]) (n := 40) (L := []) Tryz.func28 rfl Tryz.ntmps28 (Nat.le_of_ble_eq_true rfl) (Sym.nil _ _) ?_
  change RunC _ _ _ [(0, _), (1, _)] _
  refine RunC.seq ?_
  refine RunC.region ?_
  refine RunL.grows rfl rfl rfl (Grows.box rfl rfl) (fun b2 _ => ?_)
  refine RunL.grows rfl rfl rfl (Grows.box rfl rfl) (fun b3 _ => ?_)
  refine RunL.grows rfl rfl rfl (Grows.alloc rfl Tryz.zeroValue24) (fun b4 _ => ?_)
  refine RunL.still rfl rfl rfl (Still.assign rfl rfl) ?_
  refine RunL.nil ?_
  refine Ends.then ?_
  refine RunC.seq ?_
  refine RunC.seq ?_
  refine RunC.region ?_
  refine RunL.still rfl rfl rfl (Still.loads rfl rfl Tryz.isAgg24 Tryz.sizeOf24 (vs := [_, _]) rfl (fun _ hs => cells_nth (hs.at (i := 2) rfl) ⟨rfl, ⟨rfl, trivial⟩⟩)) ?_
  refine RunL.still rfl rfl rfl (Still.loads rfl rfl Tryz.isAgg24 Tryz.sizeOf24 (vs := [_, _]) rfl (fun _ hs => cells_nth (hs.at (i := 1) rfl) ⟨rfl, ⟨rfl, trivial⟩⟩)) ?_
  refine RunL.grows rfl rfl rfl (Grows.call (vs := #[_, _]) rfl rfl Tryz.call64 (fun w hs => dg_both_ok ba A ca a bb B cb b w (hda.sym hs) (hdb.sym hs) hca hcb)) (fun bg _ => ?_)
  refine RunL.still rfl rfl rfl (Still.move rfl rfl) ?_
  refine RunL.still rfl rfl rfl (Still.extractN rfl rfl rfl) ?_
  refine RunL.still rfl rfl rfl (Still.extractN rfl rfl rfl) ?_
  refine RunL.still rfl rfl rfl (Still.extractN rfl rfl rfl) ?_
  refine RunL.still rfl rfl rfl (Still.assign rfl rfl) ?_
  refine RunL.still rfl rfl rfl (Still.assign rfl rfl) ?_
  refine RunL.still rfl rfl rfl (Still.assign rfl rfl) ?_
  refine RunL.nil ?_
  refine Ends.then ?_
  refine RunC.seq ?_
  refine RunC.region ?_
  refine RunL.still rfl rfl rfl (Still.move rfl rfl) ?_
  refine RunL.still rfl rfl rfl (Still.neq rfl rfl rfl) ?_
  refine RunL.again (t := 17) (u := .bool false) rfl (rfl) ?_
  refine RunL.nil ?_
  refine Ends.then ?_
  refine RunC.cond_false rfl ?_
  refine RunC.skip ?_
  refine Ends.then ?_
  refine RunC.seq ?_
  refine RunC.seq ?_
  refine RunC.meet1 (chg := [(35, .bool (decide (200 < (a.cross.length : Int) + b.cross.length ∨ 200 < a.loops + b.loops)))]) (keep := [(2, _), (3, _), (4, _)]) (hkeep := [_, _, _]) (Fr.Sub.cons rfl (Fr.Sub.cons rfl (Fr.Sub.cons rfl (Fr.Sub.nil _)))) (HSub.pick 0 rfl (HSub.pick 0 rfl (HSub.pick 0 rfl (HSub.nil _)))) ?_ ?_
  ·
    refine RunC.region ?_
    refine RunL.still rfl rfl rfl (Still.fieldAddrL (off := 0) (off' := 0) rfl rfl Tryz.underlying24 rfl Tryz.sizeOf22 rfl) ?_
    refine RunL.still rfl rfl rfl (Still.load rfl rfl Tryz.isAgg22 (fun _ hs => cell_nth (hs.at (i := 2) rfl) rfl)) ?_
    refine RunL.still rfl rfl rfl (Still.lenSlice rfl rfl Tryz.underlying22) ?_
    refine RunL.still rfl rfl rfl (Still.fieldAddrL (off := 0) (off' := 0) rfl rfl Tryz.underlying24 rfl Tryz.sizeOf22 rfl) ?_
    refine RunL.still rfl rfl rfl (Still.load rfl rfl Tryz.isAgg22 (fun _ hs => cell_nth (hs.at (i := 1) rfl) rfl)) ?_
    refine RunL.still rfl rfl rfl (Still.lenSlice rfl rfl Tryz.underlying22) ?_
    refine RunL.still rfl rfl rfl (Still.add rfl rfl rfl (fits64 (by omega) (by omega))) ?_
    refine RunL.still rfl rfl rfl (Still.gtr rfl rfl rfl) ?_
    refine RunL.still rfl rfl rfl (Still.move rfl rfl) ?_
    refine RunL.split (t := 28) rfl (fun h28 => ?_) (fun h28 => ?_)
    · have h28 := of_decide_eq_true h28
      refine RunL.off rfl rfl rfl ?_
      refine RunL.off rfl rfl rfl ?_
      refine RunL.off rfl rfl rfl ?_
      refine RunL.off rfl rfl rfl ?_
      refine RunL.off rfl rfl rfl ?_
      refine RunL.off rfl rfl rfl ?_
      refine RunL.still rfl rfl rfl (Still.pickT rfl rfl rfl) ?_
      refine RunL.nil ?_
      exact Ends.meet1 (Fr.Sub.cons (by first | exact congrArg (fun b => some (Value.bool b)) (decide_eq_true (by omega)).symm | exact congrArg (fun b => some (Value.bool b)) (decide_eq_false (by omega)).symm | exact congrArg (fun b => some (Value.bool b)) (decide_eq_decide.2 (by omega))) (Fr.Sub.nil _)) (Fr.Sub.cons rfl (Fr.Sub.cons rfl (Fr.Sub.cons rfl (Fr.Sub.nil _)))) (HSub.pick 0 rfl (HSub.pick 0 rfl (HSub.pick 0 rfl (HSub.nil _))))
    · have h28 := of_decide_eq_false h28
      refine RunL.still rfl rfl rfl (Still.fieldAddrL (off := 0) (off' := 1) rfl rfl Tryz.underlying24 rfl Tryz.sizeOf3 rfl) ?_
      refine RunL.still rfl rfl rfl (Still.load rfl rfl Tryz.isAgg3 (fun _ hs => cell_nth (hs.at (i := 2) rfl) rfl)) ?_
      refine RunL.still rfl rfl rfl (Still.fieldAddrL (off := 0) (off' := 1) rfl rfl Tryz.underlying24 rfl Tryz.sizeOf3 rfl) ?_
      refine RunL.still rfl rfl rfl (Still.load rfl rfl Tryz.isAgg3 (fun _ hs => cell_nth (hs.at (i := 1) rfl) rfl)) ?_
      refine RunL.still rfl rfl rfl (Still.add rfl rfl rfl (fits64 (by omega) (by omega))) ?_
      refine RunL.still rfl rfl rfl (Still.gtr rfl rfl rfl) ?_
      refine RunL.still rfl rfl rfl (Still.pickF rfl rfl rfl) ?_
      refine RunL.nil ?_
      exact Ends.meet1 (Fr.Sub.cons (by first | exact congrArg (fun b => some (Value.bool b)) (decide_eq_true (by omega)).symm | exact congrArg (fun b => some (Value.bool b)) (decide_eq_false (by omega)).symm | exact congrArg (fun b => some (Value.bool b)) (decide_eq_decide.2 (by omega))) (Fr.Sub.nil _)) (Fr.Sub.cons rfl (Fr.Sub.cons rfl (Fr.Sub.cons rfl (Fr.Sub.nil _)))) (HSub.pick 0 rfl (HSub.pick 0 rfl (HSub.pick 0 rfl (HSub.nil _))))
  ·
    refine Ends.then ?_
    refine RunC.cond rfl (fun h35 => ?_) (fun h35 => ?_)
    · have h35 := of_decide_eq_true h35
      exact absurd h35 (by omega)
    · have h35 := of_decide_eq_false h35
      refine RunC.skip ?_
      refine Ends.then ?_
      refine RunC.seq ?_
      refine RunC.region ?_
      refine RunL.still rfl rfl rfl (Still.loads rfl rfl Tryz.isAgg24 Tryz.sizeOf24 (vs := [_, _]) rfl (fun _ hs => cells_nth (hs.at (i := 2) rfl) ⟨rfl, ⟨rfl, trivial⟩⟩)) ?_
      refine RunL.still rfl rfl rfl (Still.loads rfl rfl Tryz.isAgg24 Tryz.sizeOf24 (vs := [_, _]) rfl (fun _ hs => cells_nth (hs.at (i := 1) rfl) ⟨rfl, ⟨rfl, trivial⟩⟩)) ?_
      refine RunL.grows rfl rfl rfl (Grows.call (vs := #[_, _]) rfl rfl Tryz.call65 (fun w hs => dg_union ba A ca a bb B cb b w (hda.sym hs) (hdb.sym hs) sa sb hu)) (fun q hq => ?_)
      refine RunL.does0 rfl rfl (Does.store rfl rfl rfl (i := 1) rfl Tryz.sizeOf24 rfl (rfl) rfl) (fun _ _ => ?_)
      refine RunL.still rfl rfl rfl (Still.assign rfl rfl) ?_
      refine RunL.nil ?_
      refine Ends.then ?_
      refine RunC.ret ?_
      refine Ends.leave (.inl rfl) (fun _ _ ok => results2 Tryz.results28 (Holds.cell rfl (fun _ hs => load_cells (vs := [_, _]) Tryz.isAgg24 Tryz.sizeOf24 rfl (cells_nth (hs.at (i := 1) rfl) ⟨rfl, ⟨rfl, trivial⟩⟩))) (Holds.tmp rfl) ok) (fun w1 hs => ?_)
      exact Ret.intro q hq rfl (HSub.pick 0 rfl (HSub.nil _)) hs

theorem dg_there0 (base : Option Addr) (A : Addr) (cap : Nat) (d : Dia) (k : Int) (w : World) (_ : DiaAt w base A d) (h200 : d.cross.length ≤ 200) : Gives Tryz.prog 66 #[iv k, diaV base cap d] w Nil (fun _ : Unit => True) (fun _ => .bool (decide (0 ≤ k ∧ k < 2 * d.cross.length ∨ k = -1 ∧ 0 < d.loops))) (fun _ => []) := by
  refine fn_of_run (S := Nil) (args := [iv k, diaV base cap d]) (n := 24) (L := []) Tryz.func66 rfl Tryz.ntmps66 (Nat.le_of_ble_eq_true rfl) (Sym.nil _ _) ?_
  change RunC _ _ _ [(0, _), (1, _)] _
  refine RunC.seq ?_
  refine RunC.region ?_
  refine RunL.grows rfl rfl rfl (Grows.box rfl rfl) (fun b3 _ => ?_)
  refine RunL.still rfl rfl rfl (Still.assign rfl rfl) ?_
  refine RunL.nil ?_
  refine Ends.then ?_
  refine RunC.seq ?_
  refine RunC.region ?_
  refine RunL.still rfl rfl rfl (Still.move rfl rfl) ?_
  refine RunL.still rfl rfl rfl (Still.geq rfl rfl rfl) ?_
  refine RunL.still rfl rfl rfl (Still.move rfl rfl) ?_
  refine RunL.split (t := 7) rfl (fun h7 => ?_) (fun h7 => ?_)
  · have h7 := of_decide_eq_true h7
    refine RunL.still rfl rfl rfl (Still.move rfl rfl) ?_
    refine RunL.still rfl rfl rfl (Still.fieldAddrL (off := 0) (off' := 0) rfl rfl Tryz.underlying24 rfl Tryz.sizeOf22 rfl) ?_
    refine RunL.still rfl rfl rfl (Still.load rfl rfl Tryz.isAgg22 (fun _ hs => cell_nth (hs.at (i := 0) rfl) rfl)) ?_
    refine RunL.still rfl rfl rfl (Still.lenSlice rfl rfl Tryz.underlying22) ?_
    refine RunL.still rfl rfl rfl (Still.mul rfl rfl rfl (fits64 (by omega) (by omega))) ?_
    refine RunL.still rfl rfl rfl (Still.lss rfl rfl rfl) ?_
    refine RunL.still rfl rfl rfl (Still.pickT rfl rfl rfl) ?_
    refine RunL.still rfl rfl rfl (Still.move rfl rfl) ?_
    refine RunL.split (t := 15) rfl (fun h15 => ?_) (fun h15 => ?_)
    · have h15 := of_decide_eq_true h15
      refine RunL.off rfl rfl rfl ?_
      refine RunL.off rfl rfl rfl ?_
      refine RunL.off rfl rfl rfl ?_
      refine RunL.off rfl rfl rfl ?_
      refine RunL.off rfl rfl rfl ?_
      refine RunL.off rfl rfl rfl ?_
      refine RunL.off rfl rfl rfl ?_
      refine RunL.still rfl rfl rfl (Still.pickT rfl rfl rfl) ?_
      refine RunL.still rfl rfl rfl (Still.assign rfl rfl) ?_
      refine RunL.nil ?_
      refine Ends.then ?_
      refine RunC.ret ?_
      refine Ends.leave (.inl rfl) (fun _ _ ok => results1 Tryz.results66 (Holds.tmp rfl) ok) (fun w1 hs => ?_)
      exact Ret.intro () trivial (by first | exact congrArg Value.bool (decide_eq_true (by omega)).symm | exact congrArg Value.bool (decide_eq_false (by omega)).symm | exact congrArg Value.bool (decide_eq_decide.2 (by omega))) (HSub.nil _) hs
    · have h15 := of_decide_eq_false h15
      refine RunL.still rfl rfl rfl (Still.move rfl rfl) ?_
      refine RunL.still rfl rfl rfl (Still.eql rfl rfl rfl) ?_
      refine RunL.still rfl rfl rfl (Still.move rfl rfl) ?_
      refine RunL.split (t := 18) rfl (fun h18 => ?_) (fun h18 => ?_)
      · have h18 := of_decide_eq_true h18
        refine RunL.still rfl rfl rfl (Still.fieldAddrL (off := 0) (off' := 1) rfl rfl Tryz.underlying24 rfl Tryz.sizeOf3 rfl) ?_
        refine RunL.still rfl rfl rfl (Still.load rfl rfl Tryz.isAgg3 (fun _ hs => cell_nth (hs.at (i := 0) rfl) rfl)) ?_
        refine RunL.still rfl rfl rfl (Still.gtr rfl rfl rfl) ?_
        refine RunL.still rfl rfl rfl (Still.pickT rfl rfl rfl) ?_
        refine RunL.still rfl rfl rfl (Still.pickF rfl rfl rfl) ?_
        refine RunL.still rfl rfl rfl (Still.assign rfl rfl) ?_
        refine RunL.nil ?_
        refine Ends.then ?_
        refine RunC.ret ?_
        refine Ends.leave (.inl rfl) (fun _ _ ok => results1 Tryz.results66 (Holds.tmp rfl) ok) (fun w2 hs => ?_)
        exact Ret.intro () trivial (by first | exact congrArg Value.bool (decide_eq_true (by omega)).symm | exact congrArg Value.bool (decide_eq_false (by omega)).symm | exact congrArg Value.bool (decide_eq_decide.2 (by omega))) (HSub.nil _) hs
      · have h18 := of_decide_eq_false h18
        refine RunL.off rfl rfl rfl ?_
        refine RunL.off rfl rfl rfl ?_
        refine RunL.off rfl rfl rfl ?_
        refine RunL.still rfl rfl rfl (Still.pickF rfl rfl rfl) ?_
        refine RunL.still rfl rfl rfl (Still.pickF rfl rfl rfl) ?_
        refine RunL.still rfl rfl rfl (Still.assign rfl rfl) ?_
        refine RunL.nil ?_
        refine Ends.then ?_
        refine RunC.ret ?_
        refine Ends.leave (.inl rfl) (fun _ _ ok => results1 Tryz.results66 (Holds.tmp rfl) ok) (fun w3 hs => ?_)
        exact Ret.intro () trivial (by first | exact congrArg Value.bool (decide_eq_true (by omega)).symm | exact congrArg Value.bool (decide_eq_false (by omega)).symm | exact congrArg Value.bool (decide_eq_decide.2 (by omega))) (HSub.nil _) hs
  · have h7 := of_decide_eq_false h7
    refine RunL.off rfl rfl rfl ?_
    refine RunL.off rfl rfl rfl ?_
    refine RunL.off rfl rfl rfl ?_
    refine RunL.off rfl rfl rfl ?_
    refine RunL.off rfl rfl rfl ?_
    refine RunL.off rfl rfl rfl ?_
    refine RunL.still rfl rfl rfl (Still.pickF rfl rfl rfl) ?_
    refine RunL.still rfl rfl rfl (Still.move rfl rfl) ?_
    refine RunL.still rfl rfl rfl (Still.move rfl rfl) ?_
    refine RunL.still rfl rfl rfl (Still.eql rfl rfl rfl) ?_
    refine RunL.still rfl rfl rfl (Still.move rfl rfl) ?_
    refine RunL.split (t := 18) rfl (fun h18 => ?_) (fun h18 => ?_)
    · have h18 := of_decide_eq_true h18
      refine RunL.still rfl rfl rfl (Still.fieldAddrL (off := 0) (off' := 1) rfl rfl Tryz.underlying24 rfl Tryz.sizeOf3 rfl) ?_
      refine RunL.still rfl rfl rfl (Still.load rfl rfl Tryz.isAgg3 (fun _ hs => cell_nth (hs.at (i := 0) rfl) rfl)) ?_
      refine RunL.still rfl rfl rfl (Still.gtr rfl rfl rfl) ?_
      refine RunL.still rfl rfl rfl (Still.pickT rfl rfl rfl) ?_
      refine RunL.still rfl rfl rfl (Still.pickF rfl rfl rfl) ?_
      refine RunL.still rfl rfl rfl (Still.assign rfl rfl) ?_
      refine RunL.nil ?_
      refine Ends.then ?_
      refine RunC.ret ?_
      refine Ends.leave (.inl rfl) (fun _ _ ok => results1 Tryz.results66 (Holds.tmp rfl) ok) (fun w4 hs => ?_)
      exact Ret.intro () trivial (by first | exact congrArg Value.bool (decide_eq_true (by omega)).symm | exact congrArg Value.bool (decide_eq_false (by omega)).symm | exact congrArg Value.bool (decide_eq_decide.2 (by omega))) (HSub.nil _) hs
    · have h18 := of_decide_eq_false h18
      refine RunL.off rfl rfl rfl ?_
      refine RunL.off rfl rfl rfl ?_
      refine RunL.off rfl rfl rfl ?_
      refine RunL.still rfl rfl rfl (Still.pickF rfl rfl rfl) ?_
      refine RunL.still rfl rfl rfl (Still.pickF rfl rfl rfl) ?_
      refine RunL.still rfl rfl rfl (Still.assign rfl rfl) ?_
      refine RunL.nil ?_
      refine Ends.then ?_
      refine RunC.ret ?_
      refine Ends.leave (.inl rfl) (fun _ _ ok => results1 Tryz.results66 (Holds.tmp rfl) ok) (fun w5 hs => ?_)
      exact Ret.intro () trivial (by first | exact congrArg Value.bool (decide_eq_true (by omega)).symm | exact congrArg Value.bool (decide_eq_false (by omega)).symm | exact congrArg Value.bool (decide_eq_decide.2 (by omega))) (HSub.nil _) hs

theorem dg_there_yes (base : Option Addr) (A : Addr) (cap : Nat) (d : Dia) (k : Int) (w : World) (hd : DiaAt w base A d) (h200 : d.cross.length ≤ 200) (hk : thereP d k) : Gives Tryz.prog 66 #[iv k, diaV base cap d] w Nil (fun _ : Unit => True) (fun _ => .bool true) (fun _ => []) := by
  have h := dg_there0 base A cap d k w hd h200
  rwa [decide_eq_true (show 0 ≤ k ∧ k < 2 * (d.cross.length : Int) ∨ k = -1 ∧ 0 < d.loops from hk)] at h
theorem dg_there_no (base : Option Addr) (A : Addr) (cap : Nat) (d : Dia) (k : Int) (w : World) (hd : DiaAt w base A d) (h200 : d.cross.length ≤ 200) (hk : ¬ thereP d k) : Gives Tryz.prog 66 #[iv k, diaV base cap d] w Nil (fun _ : Unit => True) (fun _ => .bool false) (fun _ => []) := by
  have h := dg_there0 base A cap d k w hd h200
  rwa [decide_eq_false (show ¬ (0 ≤ k ∧ k < 2 * (d.cross.length : Int) ∨ k = -1 ∧ 0 < d.loops) from hk)] at h
theorem ends_in {d : Dia} (hS : SoundP d) {k : Int} (h0 : 0 ≤ k) (h1 : k < 2 * d.cross.length) : ∀ j u, [iv ((inQ d k / 4 : Nat) : Int), iv ((inQ d k % 4 : Nat) : Int)][j]? = some u → ((endsL d).flatMap encAE)[k.toNat * 4 + 2 + j]? = some u := fun j u h => by
  have hf := (inQ_find hS h0 h1).1
  have e : endsAt d k.toNat = (findEnd d k false, some (inQ d k)) := by rw [endsAt, show ((k.toNat : Nat) : Int) = k by omega, hf]
  rw [Nat.add_assoc]
  refine flat_get encAE_len (endsL_get (by omega)) ?_
  rw [e]
  match j, h with
  | 0, h => exact h
  | 1, h => exact h
  | (j + 2), h => simp at h

theorem dg_Sum_d1 (ba : Option Addr) (A : Addr) (ca : Nat) (a : Dia) (i : Int) (bb : Option Addr) (B : Addr) (cb : Nat) (b : Dia) (j : Int) (w : World) (hda : DiaAt w ba A a) (hdb : DiaAt w bb B b) (ha : ¬ SoundP a) : Gives Tryz.prog 29 #[diaV ba ca a, iv i, diaV bb cb b, iv j] w Nil (fun _ : Unit => True) (fun _ => .tuple #[.agg #[.slice none 0 0, iv 0], iv 220]) (fun _ => []) := by
  refine fn_of_run (S := Nil) (args := [diaV ba ca a, iv i, diaV bb cb b, iv j]) (n := 94) (L := []) Tryz.func29 rfl Tryz.ntmps29 (Nat.le_of_ble_eq_true rfl) (Sym.nil _ _) ?_
  change RunC _ _ _ [(0, _), (1, _), (2, _), (3, _)] _
  refine RunC.seq ?_
  refine RunC.region ?_
  refine RunL.grows rfl rfl rfl (Grows.box rfl rfl) (fun b4 _ => ?_)
  refine RunL.grows rfl rfl rfl (Grows.box rfl rfl) (fun b6 _ => ?_)
  refine RunL.grows rfl rfl rfl (Grows.alloc rfl Tryz.zeroValue24) (fun b8 _ => ?_)
  refine RunL.still rfl rfl rfl (Still.assign rfl rfl) ?_
  refine RunL.nil ?_
  refine Ends.then ?_
  refine RunC.seq ?_
  refine RunC.region ?_
  refine RunL.still rfl rfl rfl (Still.loads rfl rfl Tryz.isAgg24 Tryz.sizeOf24 (vs := [_, _]) rfl (fun _ hs => cells_nth (hs.at (i := 2) rfl) ⟨rfl, ⟨rfl, trivial⟩⟩)) ?_
  refine RunL.still rfl rfl rfl (Still.loads rfl rfl Tryz.isAgg24 Tryz.sizeOf24 (vs := [_, _]) rfl (fun _ hs => cells_nth (hs.at (i := 1) rfl) ⟨rfl, ⟨rfl, trivial⟩⟩)) ?_
  refine RunL.grows rfl rfl rfl (Grows.call (vs := #[_, _]) rfl rfl Tryz.call28 (fun w hs => dg_Union_d1 ba A ca a bb B cb b w (hda.sym hs) (hdb.sym hs) ha)) (fun _ _ => ?_)
  refine RunL.still rfl rfl rfl (Still.move rfl rfl) ?_
  refine RunL.still rfl rfl rfl (Still.extractN rfl rfl rfl) ?_
  refine RunL.still rfl rfl rfl (Still.extractN rfl rfl rfl) ?_
  refine RunL.grows rfl rfl rfl (Grows.alloc rfl Tryz.zeroValue24) (fun b10 _ => ?_)
  refine RunL.does0 rfl rfl (Does.store rfl rfl rfl (i := 0) rfl Tryz.sizeOf24 rfl (rfl) rfl) (fun _ _ => ?_)
  refine RunL.still rfl rfl rfl (Still.assign rfl rfl) ?_
  refine RunL.nil ?_
  refine Ends.then ?_
  refine RunC.seq ?_
  refine RunC.seq ?_
  refine RunC.region ?_
  refine RunL.still rfl rfl rfl (Still.move rfl rfl) ?_
  refine RunL.still rfl rfl rfl (Still.neq rfl rfl rfl) ?_
  refine RunL.again (t := 25) (u := .bool true) rfl (rfl) ?_
  refine RunL.nil ?_
  refine Ends.then ?_
  refine RunC.cond_true rfl ?_
  refine RunC.seq ?_
  refine RunC.region ?_
  refine RunL.still rfl rfl rfl (Still.build_0 (.agg #[.slice none 0 0, .int .i64 0]) rfl (fun _ => by kernel_rfl)) ?_
  refine RunL.still rfl rfl rfl (Still.move rfl rfl) ?_
  refine RunL.does0 rfl rfl (Does.store rfl rfl rfl (i := 1) rfl Tryz.sizeOf24 rfl (rfl) rfl) (fun _ _ => ?_)
  refine RunL.still rfl rfl rfl (Still.assign rfl rfl) ?_
  refine RunL.nil ?_
  refine Ends.then ?_
  refine RunC.ret ?_
  refine Ends.then_ret ?_
  refine Ends.leave (.inl rfl) (fun _ _ ok => results2 Tryz.results29 (Holds.cell rfl (fun _ hs => load_cells (vs := [_, _]) Tryz.isAgg24 Tryz.sizeOf24 rfl (cells_nth (hs.at (i := 1) rfl) ⟨rfl, ⟨rfl, trivial⟩⟩))) (Holds.tmp rfl) ok) (fun w1 hs => ?_)
  exact Ret.intro () trivial rfl (HSub.nil _) hs

theorem dg_Sum_d2 (ba : Option Addr) (A : Addr) (ca : Nat) (a : Dia) (i : Int) (bb : Option Addr) (B : Addr) (cb : Nat) (b : Dia) (j : Int) (w : World) (hda : DiaAt w ba A a) (hdb : DiaAt w bb B b) (ha : SoundP a) (hb : ¬ SoundP b) : Gives Tryz.prog 29 #[diaV ba ca a, iv i, diaV bb cb b, iv j] w Nil (fun _ : Unit => True) (fun _ => .tuple #[.agg #[.slice none 0 0, iv 0], iv 220]) (fun _ => []) := by
  refine fn_of_run (S := Nil) (args := [diaV ba ca a, iv i, diaV bb cb b, iv j]) (n := 94) (L := []) Tryz.func29 rfl Tryz.ntmps29 (Nat.le_of_ble_eq_true rfl) (Sym.nil _ _) ?_
  change RunC _ _ _ [(0, _), (1, _), (2, _), (3, _)] _
  refine RunC.seq ?_
  refine RunC.region ?_
  refine RunL.grows rfl rfl rfl (Grows.box rfl rfl) (fun b4 _ => ?_)
  refine RunL.grows rfl rfl rfl (Grows.box rfl rfl) (fun b6 _ => ?_)
  refine RunL.grows rfl rfl rfl (Grows.alloc rfl Tryz.zeroValue24) (fun b8 _ => ?_)
  refine RunL.still rfl rfl rfl (Still.assign rfl rfl) ?_
  refine RunL.nil ?_
  refine Ends.then ?_
  refine RunC.seq ?_
  refine RunC.region ?_
  refine RunL.still rfl rfl rfl (Still.loads rfl rfl Tryz.isAgg24 Tryz.sizeOf24 (vs := [_, _]) rfl (fun _ hs => cells_nth (hs.at (i := 2) rfl) ⟨rfl, ⟨rfl, trivial⟩⟩)) ?_
  refine RunL.still rfl rfl rfl (Still.loads rfl rfl Tryz.isAgg24 Tryz.sizeOf24 (vs := [_, _]) rfl (fun _ hs => cells_nth (hs.at (i := 1) rfl) ⟨rfl, ⟨rfl, trivial⟩⟩)) ?_
  refine RunL.grows rfl rfl rfl (Grows.call (vs := #[_, _]) rfl rfl Tryz.call28 (fun w hs => dg_Union_d2 ba A ca a bb B cb b w (hda.sym hs) (hdb.sym hs) ha hb)) (fun _ _ => ?_)
  refine RunL.still rfl rfl rfl (Still.move rfl rfl) ?_
  refine RunL.still rfl rfl rfl (Still.extractN rfl rfl rfl) ?_
  refine RunL.still rfl rfl rfl (Still.extractN rfl rfl rfl) ?_
  refine RunL.grows rfl rfl rfl (Grows.alloc rfl Tryz.zeroValue24) (fun b10 _ => ?_)
  refine RunL.does0 rfl rfl (Does.store rfl rfl rfl (i := 0) rfl Tryz.sizeOf24 rfl (rfl) rfl) (fun _ _ => ?_)
  refine RunL.still rfl rfl rfl (Still.assign rfl rfl) ?_
  refine RunL.nil ?_
  refine Ends.then ?_
  refine RunC.seq ?_
  refine RunC.seq ?_
  refine RunC.region ?_
  refine RunL.still rfl rfl rfl (Still.move rfl rfl) ?_
  refine RunL.still rfl rfl rfl (Still.neq rfl rfl rfl) ?_
  refine RunL.again (t := 25) (u := .bool true) rfl (rfl) ?_
  refine RunL.nil ?_
  refine Ends.then ?_
  refine RunC.cond_true rfl ?_
  refine RunC.seq ?_
  refine RunC.region ?_
  refine RunL.still rfl rfl rfl (Still.build_0 (.agg #[.slice none 0 0, .int .i64 0]) rfl (fun _ => by kernel_rfl)) ?_
  refine RunL.still rfl rfl rfl (Still.move rfl rfl) ?_
  refine RunL.does0 rfl rfl (Does.store rfl rfl rfl (i := 1) rfl Tryz.sizeOf24 rfl (rfl) rfl) (fun _ _ => ?_)
  refine RunL.still rfl rfl rfl (Still.assign rfl rfl) ?_
  refine RunL.nil ?_
  refine Ends.then ?_
  refine RunC.ret ?_
  refine Ends.then_ret ?_
  refine Ends.leave (.inl rfl) (fun _ _ ok => results2 Tryz.results29 (Holds.cell rfl (fun _ hs => load_cells (vs := [_, _]) Tryz.isAgg24 Tryz.sizeOf24 rfl (cells_nth (hs.at (i := 1) rfl) ⟨rfl, ⟨rfl, trivial⟩⟩))) (Holds.tmp rfl) ok) (fun w1 hs => ?_)
  exact Ret.intro () trivial rfl (HSub.nil _) hs

theorem dg_Sum_p1 (ba : Option Addr) (A : Addr) (ca : Nat) (a : Dia) (i : Int) (bb : Option Addr) (B : Addr) (cb : Nat) (b : Dia) (j : Int) (w : World) (hda : DiaAt w ba A a) (hdb : DiaAt w bb B b) (ha : SoundP a) (hb : SoundP b) (hca : checkI a ≠ 0) : Gives Tryz.prog 29 #[diaV ba ca a, iv i, diaV bb cb b, iv j] w Nil (fun _ : Unit => True) (fun _ => .tuple #[.agg #[.slice none 0 0, iv 0], iv 221]) (fun _ => []) := by
  refine fn_of_run (S := Nil) (args := [diaV ba ca a, iv i, diaV bb cb b, iv j]) (n := 94) (L := []) Tryz.func29 rfl Tryz.ntmps29 (Nat.le_of_ble_eq_true rfl) (Sym.nil _ _) ?_
  change RunC _ _ _ [(0, _), (1, _), (2, _), (3, _)] _
  refine RunC.seq ?_
  refine RunC.region ?_
  refine RunL.grows rfl rfl rfl (Grows.box rfl rfl) (fun b4 _ => ?_)
  refine RunL.grows rfl rfl rfl (Grows.box rfl rfl) (fun b6 _ => ?_)
  refine RunL.grows rfl rfl rfl (Grows.alloc rfl Tryz.zeroValue24) (fun b8 _ => ?_)
  refine RunL.still rfl rfl rfl (Still.assign rfl rfl) ?_
  refine RunL.nil ?_
  refine Ends.then ?_
  refine RunC.seq ?_
  refine RunC.region ?_
  refine RunL.still rfl rfl rfl (Still.loads rfl rfl Tryz.isAgg24 Tryz.sizeOf24 (vs := [_, _]) rfl (fun _ hs => cells_nth (hs.at (i := 2) rfl) ⟨rfl, ⟨rfl, trivial⟩⟩)) ?_
  refine RunL.still rfl rfl rfl (Still.loads rfl rfl Tryz.isAgg24 Tryz.sizeOf24 (vs := [_, _]) rfl (fun _ hs => cells_nth (hs.at (i := 1) rfl) ⟨rfl, ⟨rfl, trivial⟩⟩)) ?_
  refine RunL.grows rfl rfl rfl (Grows.call (vs := #[_, _]) rfl rfl Tryz.call28 (fun w hs => dg_Union_p1 ba A ca a bb B cb b w (hda.sym hs) (hdb.sym hs) ha hb hca)) (fun _ _ => ?_)
  refine RunL.still rfl rfl rfl (Still.move rfl rfl) ?_
  refine RunL.still rfl rfl rfl (Still.extractN rfl rfl rfl) ?_
  refine RunL.still rfl rfl rfl (Still.extractN rfl rfl rfl) ?_
  refine RunL.grows rfl rfl rfl (Grows.alloc rfl Tryz.zeroValue24) (fun b10 _ => ?_)
  refine RunL.does0 rfl rfl (Does.store rfl rfl rfl (i := 0) rfl Tryz.sizeOf24 rfl (rfl) rfl) (fun _ _ => ?_)
  refine RunL.still rfl rfl rfl (Still.assign rfl rfl) ?_
  refine RunL.nil ?_
  refine Ends.then ?_
  refine RunC.seq ?_
  refine RunC.seq ?_
  refine RunC.region ?_
  refine RunL.still rfl rfl rfl (Still.move rfl rfl) ?_
  refine RunL.still rfl rfl rfl (Still.neq rfl rfl rfl) ?_
  refine RunL.again (t := 25) (u := .bool true) rfl (rfl) ?_
  refine RunL.nil ?_
  refine Ends.then ?_
  refine RunC.cond_true rfl ?_
  refine RunC.seq ?_
  refine RunC.region ?_
  refine RunL.still rfl rfl rfl (Still.build_0 (.agg #[.slice none 0 0, .int .i64 0]) rfl (fun _ => by kernel_rfl)) ?_
  refine RunL.still rfl rfl rfl (Still.move rfl rfl) ?_
  refine RunL.does0 rfl rfl (Does.store rfl rfl rfl (i := 1) rfl Tryz.sizeOf24 rfl (rfl) rfl) (fun _ _ => ?_)
  refine RunL.still rfl rfl rfl (Still.assign rfl rfl) ?_
  refine RunL.nil ?_
  refine Ends.then ?_
  refine RunC.ret ?_
  refine Ends.then_ret ?_
  refine Ends.leave (.inl rfl) (fun _ _ ok => results2 Tryz.results29 (Holds.cell rfl (fun _ hs => load_cells (vs := [_, _]) Tryz.isAgg24 Tryz.sizeOf24 rfl (cells_nth (hs.at (i := 1) rfl) ⟨rfl, ⟨rfl, trivial⟩⟩))) (Holds.tmp rfl) ok) (fun w1 hs => ?_)
  exact Ret.intro () trivial rfl (HSub.nil _) hs

theorem dg_Sum_p2 (ba : Option Addr) (A : Addr) (ca : Nat) (a : Dia) (i : Int) (bb : Option Addr) (B : Addr) (cb : Nat) (b : Dia) (j : Int) (w : World) (hda : DiaAt w ba A a) (hdb : DiaAt w bb B b) (ha : SoundP a) (hb : SoundP b) (hca : checkI a = 0) (hcb : checkI b ≠ 0) : Gives Tryz.prog 29 #[diaV ba ca a, iv i, diaV bb cb b, iv j] w Nil (fun _ : Unit => True) (fun _ => .tuple #[.agg #[.slice none 0 0, iv 0], iv 221]) (fun _ => []) := by
  refine fn_of_run (S := Nil) (args := [diaV ba ca a, iv i, diaV bb cb b, iv j]) (n := 94) (L := []) Tryz.func29 rfl Tryz.ntmps29 (Nat.le_of_ble_eq_true rfl) (Sym.nil _ _) ?_
  change RunC _ _ _ [(0, _), (1, _), (2, _), (3, _)] _
  refine RunC.seq ?_
  refine RunC.region ?_
  refine RunL.grows rfl rfl rfl (Grows.box rfl rfl) (fun b4 _ => ?_)
  refine RunL.grows rfl rfl rfl (Grows.box rfl rfl) (fun b6 _ => ?_)
  refine RunL.grows rfl rfl rfl (Grows.alloc rfl Tryz.zeroValue24) (fun b8 _ => ?_)
  refine RunL.still rfl rfl rfl (Still.assign rfl rfl) ?_
  refine RunL.nil ?_
  refine Ends.then ?_
  refine RunC.seq ?_
  refine RunC.region ?_
  refine RunL.still rfl rfl rfl (Still.loads rfl rfl Tryz.isAgg24 Tryz.sizeOf24 (vs := [_, _]) rfl (fun _ hs => cells_nth (hs.at (i := 2) rfl) ⟨rfl, ⟨rfl, trivial⟩⟩)) ?_
  refine RunL.still rfl rfl rfl (Still.loads rfl rfl Tryz.isAgg24 Tryz.sizeOf24 (vs := [_, _]) rfl (fun _ hs => cells_nth (hs.at (i := 1) rfl) ⟨rfl, ⟨rfl, trivial⟩⟩)) ?_
  refine RunL.grows rfl rfl rfl (Grows.call (vs := #[_, _]) rfl rfl Tryz.call28 (fun w hs => dg_Union_p2 ba A ca a bb B cb b w (hda.sym hs) (hdb.sym hs) ha hb hca hcb)) (fun _ _ => ?_)
  refine RunL.still rfl rfl rfl (Still.move rfl rfl) ?_
  refine RunL.still rfl rfl rfl (Still.extractN rfl rfl rfl) ?_
  refine RunL.still rfl rfl rfl (Still.extractN rfl rfl rfl) ?_
  refine RunL.grows rfl rfl rfl (Grows.alloc rfl Tryz.zeroValue24) (fun b10 _ => ?_)
  refine RunL.does0 rfl rfl (Does.store rfl rfl rfl (i := 0) rfl Tryz.sizeOf24 rfl (rfl) rfl) (fun _ _ => ?_)
  refine RunL.still rfl rfl rfl (Still.assign rfl rfl) ?_
  refine RunL.nil ?_
  refine Ends.then ?_
  refine RunC.seq ?_
  refine RunC.seq ?_
  refine RunC.region ?_
  refine RunL.still rfl rfl rfl (Still.move rfl rfl) ?_
  refine RunL.still rfl rfl rfl (Still.neq rfl rfl rfl) ?_
  refine RunL.again (t := 25) (u := .bool true) rfl (rfl) ?_
  refine RunL.nil ?_
  refine Ends.then ?_
  refine RunC.cond_true rfl ?_
  refine RunC.seq ?_
  refine RunC.region ?_
  refine RunL.still rfl rfl rfl (Still.build_0 (.agg #[.slice none 0 0, .int .i64 0]) rfl (fun _ => by kernel_rfl)) ?_
  refine RunL.still rfl rfl rfl (Still.move rfl rfl) ?_
  refine RunL.does0 rfl rfl (Does.store rfl rfl rfl (i := 1) rfl Tryz.sizeOf24 rfl (rfl) rfl) (fun _ _ => ?_)
  refine RunL.still rfl rfl rfl (Still.assign rfl rfl) ?_
  refine RunL.nil ?_
  refine Ends.then ?_
  refine RunC.ret ?_
  refine Ends.then_ret ?_
  refine Ends.leave (.inl rfl) (fun _ _ ok => results2 Tryz.results29 (Holds.cell rfl (fun _ hs => load_cells (vs := [_, _]) Tryz.isAgg24 Tryz.sizeOf24 rfl (cells_nth (hs.at (i := 1) rfl) ⟨rfl, ⟨rfl, trivial⟩⟩))) (Holds.tmp rfl) ok) (fun w1 hs => ?_)
  exact Ret.intro () trivial rfl (HSub.nil _) hs

theorem dg_Sum_lim (ba : Option Addr) (A : Addr) (ca : Nat) (a : Dia) (i : Int) (bb : Option Addr) (B : Addr) (cb : Nat) (b : Dia) (j : Int) (w : World) (hda : DiaAt w ba A a) (hdb : DiaAt w bb B b) (hca : checkI a = 0) (hcb : checkI b = 0) (hu : uniBad a b) : Gives Tryz.prog 29 #[diaV ba ca a, iv i, diaV bb cb b, iv j] w Nil (fun _ : Unit => True) (fun _ => .tuple #[.agg #[.slice none 0 0, iv 0], iv 2]) (fun _ => []) := by
  refine fn_of_run (S := Nil) (args := [diaV ba ca a, iv i, diaV bb cb b, iv j]) (n := 94) (L := []) Tryz.func29 rfl Tryz.ntmps29 (Nat.le_of_ble_eq_true rfl) (Sym.nil _ _) ?_
  change RunC _ _ _ [(0, _), (1, _), (2, _), (3, _)] _
  refine RunC.seq ?_
  refine RunC.region ?_
  refine RunL.grows rfl rfl rfl (Grows.box rfl rfl) (fun b4 _ => ?_)
  refine RunL.grows rfl rfl rfl (Grows.box rfl rfl) (fun b6 _ => ?_)
  refine RunL.grows rfl rfl rfl (Grows.alloc rfl Tryz.zeroValue24) (fun b8 _ => ?_)
  refine RunL.still rfl rfl rfl (Still.assign rfl rfl) ?_
  refine RunL.nil ?_
  refine Ends.then ?_
  refine RunC.seq ?_
  refine RunC.region ?_
  refine RunL.still rfl rfl rfl (Still.loads rfl rfl Tryz.isAgg24 Tryz.sizeOf24 (vs := [_, _]) rfl (fun _ hs => cells_nth (hs.at (i := 2) rfl) ⟨rfl, ⟨rfl, trivial⟩⟩)) ?_
  refine RunL.still rfl rfl rfl (Still.loads rfl rfl Tryz.isAgg24 Tryz.sizeOf24 (vs := [_, _]) rfl (fun _ hs => cells_nth (hs.at (i := 1) rfl) ⟨rfl, ⟨rfl, trivial⟩⟩)) ?_
  refine RunL.grows rfl rfl rfl (Grows.call (vs := #[_, _]) rfl rfl Tryz.call28 (fun w hs => dg_Union_lim ba A ca a bb B cb b w (hda.sym hs) (hdb.sym hs) hca hcb hu)) (fun _ _ => ?_)
  refine RunL.still rfl rfl rfl (Still.move rfl rfl) ?_
  refine RunL.still rfl rfl rfl (Still.extractN rfl rfl rfl) ?_
  refine RunL.still rfl rfl rfl (Still.extractN rfl rfl rfl) ?_
  refine RunL.grows rfl rfl rfl (Grows.alloc rfl Tryz.zeroValue24) (fun b10 _ => ?_)
  refine RunL.does0 rfl rfl (Does.store rfl rfl rfl (i := 0) rfl Tryz.sizeOf24 rfl (rfl) rfl) (fun _ _ => ?_)
  refine RunL.still rfl rfl rfl (Still.assign rfl rfl) ?_
  refine RunL.nil ?_
  refine Ends.then ?_
  refine RunC.seq ?_
  refine RunC.seq ?_
  refine RunC.region ?_
  refine RunL.still rfl rfl rfl (Still.move rfl rfl) ?_
  refine RunL.still rfl rfl rfl (Still.neq rfl rfl rfl) ?_
  refine RunL.again (t := 25) (u := .bool true) rfl (rfl) ?_
  refine RunL.nil ?_
  refine Ends.then ?_
  refine RunC.cond_true rfl ?_
  refine RunC.seq ?_
  refine RunC.region ?_
  refine RunL.still rfl rfl rfl (Still.build_0 (.agg #[.slice none 0 0, .int .i64 0]) rfl (fun _ => by kernel_rfl)) ?_
  refine RunL.still rfl rfl rfl (Still.move rfl rfl) ?_
  refine RunL.does0 rfl rfl (Does.store rfl rfl rfl (i := 1) rfl Tryz.sizeOf24 rfl (rfl) rfl) (fun _ _ => ?_)
  refine RunL.still rfl rfl rfl (Still.assign rfl rfl) ?_
  refine RunL.nil ?_
  refine Ends.then ?_
  refine RunC.ret ?_
  refine Ends.then_ret ?_
  refine Ends.leave (.inl rfl) (fun _ _ ok => results2 Tryz.results29 (Holds.cell rfl (fun _ hs => load_cells (vs := [_, _]) Tryz.isAgg24 Tryz.sizeOf24 rfl (cells_nth (hs.at (i := 1) rfl) ⟨rfl, ⟨rfl, trivial⟩⟩))) (Holds.tmp rfl) ok) (fun w1 hs => ?_)
  exact Ret.intro () trivial rfl (HSub.nil _) hs

theorem dg_Sum_arg1 (ba : Option Addr) (A : Addr) (ca : Nat) (a : Dia) (i : Int) (bb : Option Addr) (B : Addr) (cb : Nat) (b : Dia) (j : Int) (w : World) (hda : DiaAt w ba A a) (hdb : DiaAt w bb B b) (hca : checkI a = 0) (hcb : checkI b = 0) (hu : ¬ uniBad a b) (hi : ¬ thereP a i) : Gives Tryz.prog 29 #[diaV ba ca a, iv i, diaV bb cb b, iv j] w Nil (fun _ : Unit => True) (fun _ => .tuple #[.agg #[.slice none 0 0, iv 0], iv 1]) (fun _ => []) := by
  have sa := (checkI_ok.1 hca).1
  have sb := (checkI_ok.1 hcb).1
  have a200 := sa.1
  have al0 := sa.2.1
  have al1 := sa.2.2.1
  have b200 := sb.1
  have bl0 := sb.2.1
  have bl1 := sb.2.2.1
  have hB := Both.of sa sb hu
  have hU := uni_sound hB
  have hul : (uniD a b).loops = a.loops + b.loops := rfl
  have hun := uniD_len a b
  refine fn_of_run (S := Nil) (args := [diaV ba ca a, iv i, diaV bb cb b, iv j]) (n := 94) (L := []) Tryz.func29 rfl Tryz.ntmps29 (Nat.le_of_ble_eq_true rfl) (Sym.nil _ _) ?_
  change RunC _ _ _ [(0, _), (1, _), (2, _), (3, _)] _
  refine RunC.seq ?_
  refine RunC.region ?_
  refine RunL.grows rfl rfl rfl (Grows.box rfl rfl) (fun b4 _ => ?_)
  refine RunL.grows rfl rfl rfl (Grows.box rfl rfl) (fun b6 _ => ?_)
  refine RunL.grows rfl rfl rfl (Grows.alloc rfl Tryz.zeroValue24) (fun b8 _ => ?_)
  refine RunL.still rfl rfl rfl (Still.assign rfl rfl) ?_
  refine RunL.nil ?_
  refine Ends.then ?_
  refine RunC.seq ?_
  refine RunC.region ?_
  refine RunL.still rfl rfl rfl (Still.loads rfl rfl Tryz.isAgg24 Tryz.sizeOf24 (vs := [_, _]) rfl (fun _ hs => cells_nth (hs.at (i := 2) rfl) ⟨rfl, ⟨rfl, trivial⟩⟩)) ?_
  refine RunL.still rfl rfl rfl (Still.loads rfl rfl Tryz.isAgg24 Tryz.sizeOf24 (vs := [_, _]) rfl (fun _ hs => cells_nth (hs.at (i := 1) rfl) ⟨rfl, ⟨rfl, trivial⟩⟩)) ?_
  refine RunL.grows rfl rfl rfl (Grows.call (vs := #[_, _]) rfl rfl Tryz.call28 (fun w hs => dg_Union_ok ba A ca a bb B cb b w (hda.sym hs) (hdb.sym hs) hca hcb hu)) (fun q hq => ?_)
  refine RunL.still rfl rfl rfl (Still.move rfl rfl) ?_
  refine RunL.still rfl rfl rfl (Still.extractN rfl rfl rfl) ?_
  refine RunL.still rfl rfl rfl (Still.extractN rfl rfl rfl) ?_
  refine RunL.grows rfl rfl rfl (Grows.alloc rfl Tryz.zeroValue24) (fun b10 _ => ?_)
  refine RunL.does0 rfl rfl (Does.store rfl rfl rfl (i := 0) rfl Tryz.sizeOf24 rfl (rfl) rfl) (fun _ _ => ?_)
  refine RunL.still rfl rfl rfl (Still.assign rfl rfl) ?_
  refine RunL.nil ?_
  refine Ends.then ?_
  refine RunC.seq ?_
  refine RunC.seq ?_
  refine RunC.region ?_
  refine RunL.still rfl rfl rfl (Still.move rfl rfl) ?_
  refine RunL.still rfl rfl rfl (Still.neq rfl rfl rfl) ?_
  refine RunL.again (t := 25) (u := .bool false) rfl (rfl) ?_
  refine RunL.nil ?_
  refine Ends.then ?_
  refine RunC.cond_false rfl ?_
  refine RunC.skip ?_
  refine Ends.then ?_
  refine RunC.seq ?_
  refine RunC.region ?_
  refine RunL.still rfl rfl rfl (Still.assign rfl rfl) ?_
  refine RunL.nil ?_
  refine Ends.then ?_
  refine RunC.seq ?_
  refine RunC.seq ?_
  refine RunC.region ?_
  refine RunL.still rfl rfl rfl (Still.move rfl rfl) ?_
  refine RunL.still rfl rfl rfl (Still.move rfl rfl) ?_
  refine RunL.still rfl rfl rfl (Still.loads rfl rfl Tryz.isAgg24 Tryz.sizeOf24 (vs := [_, _]) rfl (fun _ hs => cells_nth (hs.at (i := 4) rfl) ⟨rfl, ⟨rfl, trivial⟩⟩)) ?_
  refine RunL.grows rfl rfl rfl (Grows.callV (vs := #[_, _]) rfl rfl rfl Tryz.call66 (fun w hs => dg_there_no ba A ca a i w (hda.sym hs) a200 hi)) (fun _ _ => ?_)
  refine RunL.again (t := 31) (u := .bool false) rfl (rfl) ?_
  refine RunL.still rfl rfl rfl (Still.not rfl rfl) ?_
  refine RunL.still rfl rfl rfl (Still.move rfl rfl) ?_
  refine RunL.off rfl rfl rfl ?_
  refine RunL.off rfl rfl rfl ?_
  refine RunL.off rfl rfl rfl ?_
  refine RunL.off rfl rfl rfl ?_
  refine RunL.off rfl rfl rfl ?_
  refine RunL.still rfl rfl rfl (Still.pickT rfl rfl rfl) ?_
  refine RunL.nil ?_
  refine Ends.then ?_
  refine RunC.cond_true rfl ?_
  refine RunC.seq ?_
  refine RunC.region ?_
  refine RunL.still rfl rfl rfl (Still.build_0 (.agg #[.slice none 0 0, .int .i64 0]) rfl (fun _ => by kernel_rfl)) ?_
  refine RunL.does0 rfl rfl (Does.store rfl rfl rfl (i := 2) rfl Tryz.sizeOf24 rfl (rfl) rfl) (fun _ _ => ?_)
  refine RunL.still rfl rfl rfl (Still.assign rfl rfl) ?_
  refine RunL.nil ?_
  refine Ends.then ?_
  refine RunC.ret ?_
  refine Ends.then_ret ?_
  refine Ends.leave (.inl rfl) (fun _ _ ok => results2 Tryz.results29 (Holds.cell rfl (fun _ hs => load_cells (vs := [_, _]) Tryz.isAgg24 Tryz.sizeOf24 rfl (cells_nth (hs.at (i := 2) rfl) ⟨rfl, ⟨rfl, trivial⟩⟩))) (Holds.tmp rfl) ok) (fun w1 hs => ?_)
  exact Ret.intro () trivial rfl (HSub.nil _) hs

theorem dg_Sum_arg2 (ba : Option Addr) (A : Addr) (ca : Nat) (a : Dia) (i : Int) (bb : Option Addr) (B : Addr) (cb : Nat) (b : Dia) (j : Int) (w : World) (hda : DiaAt w ba A a) (hdb : DiaAt w bb B b) (hca : checkI a = 0) (hcb : checkI b = 0) (hu : ¬ uniBad a b) (hi : thereP a i) (hj : ¬ thereP b j) : Gives Tryz.prog 29 #[diaV ba ca a, iv i, diaV bb cb b, iv j] w Nil (fun _ : Unit => True) (fun _ => .tuple #[.agg #[.slice none 0 0, iv 0], iv 1]) (fun _ => []) := by
  have sa := (checkI_ok.1 hca).1
  have sb := (checkI_ok.1 hcb).1
  have a200 := sa.1
  have al0 := sa.2.1
  have al1 := sa.2.2.1
  have b200 := sb.1
  have bl0 := sb.2.1
  have bl1 := sb.2.2.1
  have hB := Both.of sa sb hu
  have hU := uni_sound hB
  have hul : (uniD a b).loops = a.loops + b.loops := rfl
  have hun := uniD_len a b
  refine fn_of_run (S := Nil) (args := [diaV ba ca a, iv i, diaV bb cb b, iv j]) (n := 94) (L := []) Tryz.func29 rfl Tryz.ntmps29 (Nat.le_of_ble_eq_true rfl) (Sym.nil _ _) ?_
  change RunC _ _ _ [(0, _), (1, _), (2, _), (3, _)] _
  refine RunC.seq ?_
  refine RunC.region ?_
  refine RunL.grows rfl rfl rfl (Grows.box rfl rfl) (fun b4 _ => ?_)
  refine RunL.grows rfl rfl rfl (Grows.box rfl rfl) (fun b6 _ => ?_)
  refine RunL.grows rfl rfl rfl (Grows.alloc rfl Tryz.zeroValue24) (fun b8 _ => ?_)
  refine RunL.still rfl rfl rfl (Still.assign rfl rfl) ?_
  refine RunL.nil ?_
  refine Ends.then ?_
  refine RunC.seq ?_
  refine RunC.region ?_
  refine RunL.still rfl rfl rfl (Still.loads rfl rfl Tryz.isAgg24 Tryz.sizeOf24 (vs := [_, _]) rfl (fun _ hs => cells_nth (hs.at (i := 2) rfl) ⟨rfl, ⟨rfl, trivial⟩⟩)) ?_
  refine RunL.still rfl rfl rfl (Still.loads rfl rfl Tryz.isAgg24 Tryz.sizeOf24 (vs := [_, _]) rfl (fun _ hs => cells_nth (hs.at (i := 1) rfl) ⟨rfl, ⟨rfl, trivial⟩⟩)) ?_
  refine RunL.grows rfl rfl rfl (Grows.call (vs := #[_, _]) rfl rfl Tryz.call28 (fun w hs => dg_Union_ok ba A ca a bb B cb b w (hda.sym hs) (hdb.sym hs) hca hcb hu)) (fun q hq => ?_)
  refine RunL.still rfl rfl rfl (Still.move rfl rfl) ?_
  refine RunL.still rfl rfl rfl (Still.extractN rfl rfl rfl) ?_
  refine RunL.still rfl rfl rfl (Still.extractN rfl rfl rfl) ?_
  refine RunL.grows rfl rfl rfl (Grows.alloc rfl Tryz.zeroValue24) (fun b10 _ => ?_)
  refine RunL.does0 rfl rfl (Does.store rfl rfl rfl (i := 0) rfl Tryz.sizeOf24 rfl (rfl) rfl) (fun _ _ => ?_)
  refine RunL.still rfl rfl rfl (Still.assign rfl rfl) ?_
  refine RunL.nil ?_
  refine Ends.then ?_
  refine RunC.seq ?_
  refine RunC.seq ?_
  refine RunC.region ?_
  refine RunL.still rfl rfl rfl (Still.move rfl rfl) ?_
  refine RunL.still rfl rfl rfl (Still.neq rfl rfl rfl) ?_
  refine RunL.again (t := 25) (u := .bool false) rfl (rfl) ?_
  refine RunL.nil ?_
  refine Ends.then ?_
  refine RunC.cond_false rfl ?_
  refine RunC.skip ?_
  refine Ends.then ?_
  refine RunC.seq ?_
  refine RunC.region ?_
  refine RunL.still rfl rfl rfl (Still.assign rfl rfl) ?_
  refine RunL.nil ?_
  refine Ends.then ?_
  refine RunC.seq ?_
  refine RunC.seq ?_
  refine RunC.region ?_
  refine RunL.still rfl rfl rfl (Still.move rfl rfl) ?_
  refine RunL.still rfl rfl rfl (Still.move rfl rfl) ?_
  refine RunL.still rfl rfl rfl (Still.loads rfl rfl Tryz.isAgg24 Tryz.sizeOf24 (vs := [_, _]) rfl (fun _ hs => cells_nth (hs.at (i := 4) rfl) ⟨rfl, ⟨rfl, trivial⟩⟩)) ?_
  refine RunL.grows rfl rfl rfl (Grows.callV (vs := #[_, _]) rfl rfl rfl Tryz.call66 (fun w hs => dg_there_yes ba A ca a i w (hda.sym hs) a200 hi)) (fun _ _ => ?_)
  refine RunL.again (t := 31) (u := .bool true) rfl (rfl) ?_
  refine RunL.still rfl rfl rfl (Still.not rfl rfl) ?_
  refine RunL.still rfl rfl rfl (Still.move rfl rfl) ?_
  refine RunL.still rfl rfl rfl (Still.move rfl rfl) ?_
  refine RunL.still rfl rfl rfl (Still.move rfl rfl) ?_
  refine RunL.still rfl rfl rfl (Still.loads rfl rfl Tryz.isAgg24 Tryz.sizeOf24 (vs := [_, _]) rfl (fun _ hs => cells_nth (hs.at (i := 3) rfl) ⟨rfl, ⟨rfl, trivial⟩⟩)) ?_
  refine RunL.grows rfl rfl rfl (Grows.callV (vs := #[_, _]) rfl rfl rfl Tryz.call66 (fun w hs => dg_there_no bb B cb b j w (hdb.sym hs) b200 hj)) (fun _ _ => ?_)
  refine RunL.again (t := 37) (u := .bool false) rfl (rfl) ?_
  refine RunL.still rfl rfl rfl (Still.not rfl rfl) ?_
  refine RunL.still rfl rfl rfl (Still.pickF rfl rfl rfl) ?_
  refine RunL.nil ?_
  refine Ends.then ?_
  refine RunC.cond_true rfl ?_
  refine RunC.seq ?_
  refine RunC.region ?_
  refine RunL.still rfl rfl rfl (Still.build_0 (.agg #[.slice none 0 0, .int .i64 0]) rfl (fun _ => by kernel_rfl)) ?_
  refine RunL.does0 rfl rfl (Does.store rfl rfl rfl (i := 2) rfl Tryz.sizeOf24 rfl (rfl) rfl) (fun _ _ => ?_)
  refine RunL.still rfl rfl rfl (Still.assign rfl rfl) ?_
  refine RunL.nil ?_
  refine Ends.then ?_
  refine RunC.ret ?_
  refine Ends.then_ret ?_
  refine Ends.leave (.inl rfl) (fun _ _ ok => results2 Tryz.results29 (Holds.cell rfl (fun _ hs => load_cells (vs := [_, _]) Tryz.isAgg24 Tryz.sizeOf24 rfl (cells_nth (hs.at (i := 2) rfl) ⟨rfl, ⟨rfl, trivial⟩⟩))) (Holds.tmp rfl) ok) (fun w1 hs => ?_)
  exact Ret.intro () trivial rfl (HSub.nil _) hs

theorem dg_Sum_neg (ba : Option Addr) (A : Addr) (ca : Nat) (a : Dia) (i : Int) (bb : Option Addr) (B : Addr) (cb : Nat) (b : Dia) (j : Int) (w : World) (hda : DiaAt w ba A a) (hdb : DiaAt w bb B b) (hca : checkI a = 0) (hcb : checkI b = 0) (hu : ¬ uniBad a b) (hi : thereP a i) (hj : thereP b j) (hn : i < 0 ∨ j < 0) : Gives Tryz.prog 29 #[diaV ba ca a, iv i, diaV bb cb b, iv j] w Nil (fun q : Option Addr × Nat => OKB q (withL (uniD a b) ((uniD a b).loops - 1)).cross.length) (fun q => .tuple #[diaV q.1 q.2 (withL (uniD a b) ((uniD a b).loops - 1)), iv 0]) (fun q => [ownD q (withL (uniD a b) ((uniD a b).loops - 1))]) := by
  have sa := (checkI_ok.1 hca).1
  have sb := (checkI_ok.1 hcb).1
  have a200 := sa.1
  have al0 := sa.2.1
  have al1 := sa.2.2.1
  have b200 := sb.1
  have bl0 := sb.2.1
  have bl1 := sb.2.2.1
  have hB := Both.of sa sb hu
  have hU := uni_sound hB
  have hul : (uniD a b).loops = a.loops + b.loops := rfl
  have hun := uniD_len a b
  refine fn_of_run (S := Nil) (args := [diaV ba ca a, iv i, diaV bb cb b, iv j]) (n := 94) (L := []) Tryz.func29 rfl Tryz.ntmps29 (Nat.le_of_ble_eq_true rfl) (Sym.nil _ _) ?_
  change RunC _ _ _ [(0, _), (1, _), (2, _), (3, _)] _
  refine RunC.seq ?_
  refine RunC.region ?_
  refine RunL.grows rfl rfl rfl (Grows.box rfl rfl) (fun b4 _ => ?_)
  refine RunL.grows rfl rfl rfl (Grows.box rfl rfl) (fun b6 _ => ?_)
  refine RunL.grows rfl rfl rfl (Grows.alloc rfl Tryz.zeroValue24) (fun b8 _ => ?_)
  refine RunL.still rfl rfl rfl (Still.assign rfl rfl) ?_
  refine RunL.nil ?_
  refine Ends.then ?_
  refine RunC.seq ?_
  refine RunC.region ?_
  refine RunL.still rfl rfl rfl (Still.loads rfl rfl Tryz.isAgg24 Tryz.sizeOf24 (vs := [_, _]) rfl (fun _ hs => cells_nth (hs.at (i := 2) rfl) ⟨rfl, ⟨rfl, trivial⟩⟩)) ?_
  refine RunL.still rfl rfl rfl (Still.loads rfl rfl Tryz.isAgg24 Tryz.sizeOf24 (vs := [_, _]) rfl (fun _ hs => cells_nth (hs.at (i := 1) rfl) ⟨rfl, ⟨rfl, trivial⟩⟩)) ?_
  refine RunL.grows rfl rfl rfl (Grows.call (vs := #[_, _]) rfl rfl Tryz.call28 (fun w hs => dg_Union_ok ba A ca a bb B cb b w (hda.sym hs) (hdb.sym hs) hca hcb hu)) (fun q hq => ?_)
  refine RunL.still rfl rfl rfl (Still.move rfl rfl) ?_
  refine RunL.still rfl rfl rfl (Still.extractN rfl rfl rfl) ?_
  refine RunL.still rfl rfl rfl (Still.extractN rfl rfl rfl) ?_
  refine RunL.grows rfl rfl rfl (Grows.alloc rfl Tryz.zeroValue24) (fun b10 _ => ?_)
  refine RunL.does0 rfl rfl (Does.store rfl rfl rfl (i := 0) rfl Tryz.sizeOf24 rfl (rfl) rfl) (fun _ _ => ?_)
  refine RunL.conv (fun _ hs => hs.re 0 rfl (show _ = HL.obj b10 (.cells #[.slice q.1 (uniD a b).cross.length q.2, iv (uniD a b).loops] 24 (0, 0)) from rfl)) ?_
  refine RunL.still rfl rfl rfl (Still.assign rfl rfl) ?_
  refine RunL.nil ?_
  refine Ends.then ?_
  refine RunC.seq ?_
  refine RunC.seq ?_
  refine RunC.region ?_
  refine RunL.still rfl rfl rfl (Still.move rfl rfl) ?_
  refine RunL.still rfl rfl rfl (Still.neq rfl rfl rfl) ?_
  refine RunL.again (t := 25) (u := .bool false) rfl (rfl) ?_
  refine RunL.nil ?_
  refine Ends.then ?_
  refine RunC.cond_false rfl ?_
  refine RunC.skip ?_
  refine Ends.then ?_
  refine RunC.seq ?_
  refine RunC.region ?_
  refine RunL.still rfl rfl rfl (Still.assign rfl rfl) ?_
  refine RunL.nil ?_
  refine Ends.then ?_
  refine RunC.seq ?_
  refine RunC.seq ?_
  refine RunC.region ?_
  refine RunL.still rfl rfl rfl (Still.move rfl rfl) ?_
  refine RunL.still rfl rfl rfl (Still.move rfl rfl) ?_
  refine RunL.still rfl rfl rfl (Still.loads rfl rfl Tryz.isAgg24 Tryz.sizeOf24 (vs := [_, _]) rfl (fun _ hs => cells_nth (hs.at (i := 4) rfl) ⟨rfl, ⟨rfl, trivial⟩⟩)) ?_
  refine RunL.grows rfl rfl rfl (Grows.callV (vs := #[_, _]) rfl rfl rfl Tryz.call66 (fun w hs => dg_there_yes ba A ca a i w (hda.sym hs) a200 hi)) (fun _ _ => ?_)
  refine RunL.again (t := 31) (u := .bool true) rfl (rfl) ?_
  refine RunL.still rfl rfl rfl (Still.not rfl rfl) ?_
  refine RunL.still rfl rfl rfl (Still.move rfl rfl) ?_
  refine RunL.still rfl rfl rfl (Still.move rfl rfl) ?_
  refine RunL.still rfl rfl rfl (Still.move rfl rfl) ?_
  refine RunL.still rfl rfl rfl (Still.loads rfl rfl Tryz.isAgg24 Tryz.sizeOf24 (vs := [_, _]) rfl (fun _ hs => cells_nth (hs.at (i := 3) rfl) ⟨rfl, ⟨rfl, trivial⟩⟩)) ?_
  refine RunL.grows rfl rfl rfl (Grows.callV (vs := #[_, _]) rfl rfl rfl Tryz.call66 (fun w hs => dg_there_yes bb B cb b j w (hdb.sym hs) b200 hj)) (fun _ _ => ?_)
  refine RunL.again (t := 37) (u := .bool true) rfl (rfl) ?_
  refine RunL.still rfl rfl rfl (Still.not rfl rfl) ?_
  refine RunL.still rfl rfl rfl (Still.pickF rfl rfl rfl) ?_
  refine RunL.nil ?_
  refine Ends.then ?_
  refine RunC.cond_false rfl ?_
  refine RunC.skip ?_
  refine Ends.then ?_
  refine RunC.seq ?_
  refine RunC.seq ?_
  refine RunC.meet1 (chg := [(46, .bool (decide (i < 0 ∨ j < 0)))]) (keep := [(1, _), (3, _), (4, _), (8, _), (10, _)]) (hkeep := [_, _, _, _, _]) (Fr.Sub.cons rfl (Fr.Sub.cons rfl (Fr.Sub.cons rfl (Fr.Sub.cons rfl (Fr.Sub.cons rfl (Fr.Sub.nil _)))))) (HSub.pick 0 rfl (HSub.pick 0 rfl (HSub.pick 0 rfl (HSub.pick 0 rfl (HSub.pick 0 rfl (HSub.nil _)))))) ?_ ?_
  ·
    refine RunC.region ?_
    refine RunL.still rfl rfl rfl (Still.move rfl rfl) ?_
    refine RunL.still rfl rfl rfl (Still.lss rfl rfl rfl) ?_
    refine RunL.still rfl rfl rfl (Still.move rfl rfl) ?_
    refine RunL.split (t := 43) rfl (fun h43 => ?_) (fun h43 => ?_)
    · have h43 := of_decide_eq_true h43
      refine RunL.off rfl rfl rfl ?_
      refine RunL.off rfl rfl rfl ?_
      refine RunL.still rfl rfl rfl (Still.pickT rfl rfl rfl) ?_
      refine RunL.nil ?_
      exact Ends.meet1 (Fr.Sub.cons (by first | exact congrArg (fun b => some (Value.bool b)) (decide_eq_true (by omega)).symm | exact congrArg (fun b => some (Value.bool b)) (decide_eq_false (by omega)).symm | exact congrArg (fun b => some (Value.bool b)) (decide_eq_decide.2 (by omega))) (Fr.Sub.nil _)) (Fr.Sub.cons rfl (Fr.Sub.cons rfl (Fr.Sub.cons rfl (Fr.Sub.cons rfl (Fr.Sub.cons rfl (Fr.Sub.nil _)))))) (HSub.pick 0 rfl (HSub.pick 0 rfl (HSub.pick 0 rfl (HSub.pick 0 rfl (HSub.pick 0 rfl (HSub.nil _))))))
    · have h43 := of_decide_eq_false h43
      refine RunL.still rfl rfl rfl (Still.move rfl rfl) ?_
      refine RunL.still rfl rfl rfl (Still.lss rfl rfl rfl) ?_
      refine RunL.still rfl rfl rfl (Still.pickF rfl rfl rfl) ?_
      refine RunL.nil ?_
      exact Ends.meet1 (Fr.Sub.cons (by first | exact congrArg (fun b => some (Value.bool b)) (decide_eq_true (by omega)).symm | exact congrArg (fun b => some (Value.bool b)) (decide_eq_false (by omega)).symm | exact congrArg (fun b => some (Value.bool b)) (decide_eq_decide.2 (by omega))) (Fr.Sub.nil _)) (Fr.Sub.cons rfl (Fr.Sub.cons rfl (Fr.Sub.cons rfl (Fr.Sub.cons rfl (Fr.Sub.cons rfl (Fr.Sub.nil _)))))) (HSub.pick 0 rfl (HSub.pick 0 rfl (HSub.pick 0 rfl (HSub.pick 0 rfl (HSub.pick 0 rfl (HSub.nil _))))))
  ·
    refine Ends.then ?_
    refine RunC.cond rfl (fun h46 => ?_) (fun h46 => ?_)
    · have h46 := of_decide_eq_true h46
      refine RunC.seq ?_
      refine RunC.region ?_
      refine RunL.still rfl rfl rfl (Still.fieldAddrL (off := 0) (off' := 1) rfl rfl Tryz.underlying24 rfl Tryz.sizeOf3 rfl) ?_
      refine RunL.still rfl rfl rfl (Still.load rfl rfl Tryz.isAgg3 (fun _ hs => cell_nth (hs.at (i := 0) rfl) rfl)) ?_
      refine RunL.still rfl rfl rfl (Still.sub rfl rfl rfl (fits64 (by omega) (by omega))) ?_
      refine RunL.still rfl rfl rfl (Still.fieldAddrL (off := 0) (off' := 1) rfl rfl Tryz.underlying24 rfl Tryz.sizeOf3 rfl) ?_
      refine RunL.does0 rfl rfl (Does.store1 rfl rfl rfl (i := 0) rfl Tryz.sizeOf3 rfl (rfl)) (fun _ _ => ?_)
      refine RunL.nil ?_
      refine Ends.then ?_
      refine RunC.seq ?_
      refine RunC.region ?_
      refine RunL.still rfl rfl rfl (Still.loads rfl rfl Tryz.isAgg24 Tryz.sizeOf24 (vs := [_, _]) rfl (fun _ hs => cells_nth (hs.at (i := 0) rfl) ⟨rfl, ⟨rfl, trivial⟩⟩)) ?_
      refine RunL.does0 rfl rfl (Does.store rfl rfl rfl (i := 2) rfl Tryz.sizeOf24 rfl (rfl) rfl) (fun _ _ => ?_)
      refine RunL.still rfl rfl rfl (Still.assign rfl rfl) ?_
      refine RunL.nil ?_
      refine Ends.then ?_
      refine RunC.ret ?_
      refine Ends.then_ret ?_
      refine Ends.leave (.inl rfl) (fun _ _ ok => results2 Tryz.results29 (Holds.cell rfl (fun _ hs => load_cells (vs := [_, _]) Tryz.isAgg24 Tryz.sizeOf24 rfl (cells_nth (hs.at (i := 2) rfl) ⟨rfl, ⟨rfl, trivial⟩⟩))) (Holds.tmp rfl) ok) (fun w1 hs => ?_)
      exact Ret.intro q hq rfl (HSub.pick 1 rfl (HSub.nil _)) hs
    · have h46 := of_decide_eq_false h46
      exact absurd hn h46

theorem dg_Sum_spl (ba : Option Addr) (A : Addr) (ca : Nat) (a : Dia) (i : Int) (bb : Option Addr) (B : Addr) (cb : Nat) (b : Dia) (j : Int) (w : World) (hda : DiaAt w ba A a) (hdb : DiaAt w bb B b) (hca : checkI a = 0) (hcb : checkI b = 0) (hu : ¬ uniBad a b) (hi0 : 0 ≤ i) (hi1 : i < 2 * a.cross.length) (hj0 : 0 ≤ j) (hj1 : j < 2 * b.cross.length) : Gives Tryz.prog 29 #[diaV ba ca a, iv i, diaV bb cb b, iv j] w Nil (fun q : Option Addr × Nat => OKB q (splD a b i j).cross.length) (fun q => .tuple #[diaV q.1 q.2 (splD a b i j), iv 0]) (fun q => [ownD q (splD a b i j)]) := by
  have sa := (checkI_ok.1 hca).1
  have sb := (checkI_ok.1 hcb).1
  have a200 := sa.1
  have al0 := sa.2.1
  have al1 := sa.2.2.1
  have b200 := sb.1
  have bl0 := sb.2.1
  have bl1 := sb.2.2.1
  have hB := Both.of sa sb hu
  have hU := uni_sound hB
  have hul : (uniD a b).loops = a.loops + b.loops := rfl
  have hun := uniD_len a b
  have hXf := inQ_find hU (a := i) hi0 (by omega)
  have hX := hXf.2.1
  have hYf := inQ_find hU (a := (j + 2 * a.cross.length)) (by omega) (by omega)
  have hY := hYf.2.1
  have hY2 : (inQ (uniD a b) (j + 2 * a.cross.length)) < 4 * (setQ (uniD a b) (inQ (uniD a b) i) (j + 2 * a.cross.length)).cross.length := by rw [setQ_len]; exact hY
  have hil : (inQ (uniD a b) i) / 4 < (uniD a b).cross.length := by omega
  have hjl : (inQ (uniD a b) (j + 2 * a.cross.length)) / 4 < (uniD a b).cross.length := by omega
  have hi : thereP a i := .inl ⟨hi0, hi1⟩
  have hj : thereP b j := .inl ⟨hj0, hj1⟩
  refine fn_of_run (S := Nil) (args := [diaV ba ca a, iv i, diaV bb cb b, iv j]) (n := 94) (L := []) Tryz.func29 rfl Tryz.ntmps29 (Nat.le_of_ble_eq_true rfl) (Sym.nil _ _) ?_
  change RunC _ _ _ [(0, _), (1, _), (2, _), (3, _)] _
  refine RunC.seq ?_
  refine RunC.region ?_
  refine RunL.grows rfl rfl rfl (Grows.box rfl rfl) (fun b4 _ => ?_)
  refine RunL.grows rfl rfl rfl (Grows.box rfl rfl) (fun b6 _ => ?_)
  refine RunL.grows rfl rfl rfl (Grows.alloc rfl Tryz.zeroValue24) (fun b8 _ => ?_)
  refine RunL.still rfl rfl rfl (Still.assign rfl rfl) ?_
  refine RunL.nil ?_
  refine Ends.then ?_
  refine RunC.seq ?_
  refine RunC.region ?_
  refine RunL.still rfl rfl rfl (Still.loads rfl rfl Tryz.isAgg24 Tryz.sizeOf24 (vs := [_, _]) rfl (fun _ hs => cells_nth (hs.at (i := 2) rfl) ⟨rfl, ⟨rfl, trivial⟩⟩)) ?_
  refine RunL.still rfl rfl rfl (Still.loads rfl rfl Tryz.isAgg24 Tryz.sizeOf24 (vs := [_, _]) rfl (fun _ hs => cells_nth (hs.at (i := 1) rfl) ⟨rfl, ⟨rfl, trivial⟩⟩)) ?_
  refine RunL.grows rfl rfl rfl (Grows.call (vs := #[_, _]) rfl rfl Tryz.call28 (fun w hs => dg_Union_ok ba A ca a bb B cb b w (hda.sym hs) (hdb.sym hs) hca hcb hu)) (fun q hq => ?_)
  refine RunL.still rfl rfl rfl (Still.move rfl rfl) ?_
  refine RunL.still rfl rfl rfl (Still.extractN rfl rfl rfl) ?_
  refine RunL.still rfl rfl rfl (Still.extractN rfl rfl rfl) ?_
  refine RunL.grows rfl rfl rfl (Grows.alloc rfl Tryz.zeroValue24) (fun b10 _ => ?_)
  refine RunL.does0 rfl rfl (Does.store rfl rfl rfl (i := 0) rfl Tryz.sizeOf24 rfl (rfl) rfl) (fun _ _ => ?_)
  refine RunL.conv (fun _ hs => hs.re 0 rfl (show _ = HL.obj b10 (.cells #[.slice q.1 (uniD a b).cross.length q.2, iv (uniD a b).loops] 24 (0, 0)) from rfl)) ?_
  refine RunL.still rfl rfl rfl (Still.assign rfl rfl) ?_
  refine RunL.nil ?_
  refine Ends.then ?_
  refine RunC.seq ?_
  refine RunC.seq ?_
  refine RunC.region ?_
  refine RunL.still rfl rfl rfl (Still.move rfl rfl) ?_
  refine RunL.still rfl rfl rfl (Still.neq rfl rfl rfl) ?_
  refine RunL.again (t := 25) (u := .bool false) rfl (rfl) ?_
  refine RunL.nil ?_
  refine Ends.then ?_
  refine RunC.cond_false rfl ?_
  refine RunC.skip ?_
  refine Ends.then ?_
  refine RunC.seq ?_
  refine RunC.region ?_
  refine RunL.still rfl rfl rfl (Still.assign rfl rfl) ?_
  refine RunL.nil ?_
  refine Ends.then ?_
  refine RunC.seq ?_
  refine RunC.seq ?_
  refine RunC.region ?_
  refine RunL.still rfl rfl rfl (Still.move rfl rfl) ?_
  refine RunL.still rfl rfl rfl (Still.move rfl rfl) ?_
  refine RunL.still rfl rfl rfl (Still.loads rfl rfl Tryz.isAgg24 Tryz.sizeOf24 (vs := [_, _]) rfl (fun _ hs => cells_nth (hs.at (i := 4) rfl) ⟨rfl, ⟨rfl, trivial⟩⟩)) ?_
  refine RunL.grows rfl rfl rfl (Grows.callV (vs := #[_, _]) rfl rfl rfl Tryz.call66 (fun w hs => dg_there_yes ba A ca a i w (hda.sym hs) a200 hi)) (fun _ _ => ?_)
  refine RunL.again (t := 31) (u := .bool true) rfl (rfl) ?_
  refine RunL.still rfl rfl rfl (Still.not rfl rfl) ?_
  refine RunL.still rfl rfl rfl (Still.move rfl rfl) ?_
  refine RunL.still rfl rfl rfl (Still.move rfl rfl) ?_
  refine RunL.still rfl rfl rfl (Still.move rfl rfl) ?_
  refine RunL.still rfl rfl rfl (Still.loads rfl rfl Tryz.isAgg24 Tryz.sizeOf24 (vs := [_, _]) rfl (fun _ hs => cells_nth (hs.at (i := 3) rfl) ⟨rfl, ⟨rfl, trivial⟩⟩)) ?_
  refine RunL.grows rfl rfl rfl (Grows.callV (vs := #[_, _]) rfl rfl rfl Tryz.call66 (fun w hs => dg_there_yes bb B cb b j w (hdb.sym hs) b200 hj)) (fun _ _ => ?_)
  refine RunL.again (t := 37) (u := .bool true) rfl (rfl) ?_
  refine RunL.still rfl rfl rfl (Still.not rfl rfl) ?_
  refine RunL.still rfl rfl rfl (Still.pickF rfl rfl rfl) ?_
  refine RunL.nil ?_
  refine Ends.then ?_
  refine RunC.cond_false rfl ?_
  refine RunC.skip ?_
  refine Ends.then ?_
  refine RunC.seq ?_
  refine RunC.seq ?_
  refine RunC.meet1 (chg := [(46, .bool (decide (i < 0 ∨ j < 0)))]) (keep := [(1, _), (3, _), (4, _), (8, _), (10, _)]) (hkeep := [_, _, _, _, _]) (Fr.Sub.cons rfl (Fr.Sub.cons rfl (Fr.Sub.cons rfl (Fr.Sub.cons rfl (Fr.Sub.cons rfl (Fr.Sub.nil _)))))) (HSub.pick 0 rfl (HSub.pick 0 rfl (HSub.pick 0 rfl (HSub.pick 0 rfl (HSub.pick 0 rfl (HSub.nil _)))))) ?_ ?_
  ·
    refine RunC.region ?_
    refine RunL.still rfl rfl rfl (Still.move rfl rfl) ?_
    refine RunL.still rfl rfl rfl (Still.lss rfl rfl rfl) ?_
    refine RunL.still rfl rfl rfl (Still.move rfl rfl) ?_
    refine RunL.split (t := 43) rfl (fun h43 => ?_) (fun h43 => ?_)
    · have h43 := of_decide_eq_true h43
      refine RunL.off rfl rfl rfl ?_
      refine RunL.off rfl rfl rfl ?_
      refine RunL.still rfl rfl rfl (Still.pickT rfl rfl rfl) ?_
      refine RunL.nil ?_
      exact Ends.meet1 (Fr.Sub.cons (by first | exact congrArg (fun b => some (Value.bool b)) (decide_eq_true (by omega)).symm | exact congrArg (fun b => some (Value.bool b)) (decide_eq_false (by omega)).symm | exact congrArg (fun b => some (Value.bool b)) (decide_eq_decide.2 (by omega))) (Fr.Sub.nil _)) (Fr.Sub.cons rfl (Fr.Sub.cons rfl (Fr.Sub.cons rfl (Fr.Sub.cons rfl (Fr.Sub.cons rfl (Fr.Sub.nil _)))))) (HSub.pick 0 rfl (HSub.pick 0 rfl (HSub.pick 0 rfl (HSub.pick 0 rfl (HSub.pick 0 rfl (HSub.nil _))))))
    · have h43 := of_decide_eq_false h43
      refine RunL.still rfl rfl rfl (Still.move rfl rfl) ?_
      refine RunL.still rfl rfl rfl (Still.lss rfl rfl rfl) ?_
      refine RunL.still rfl rfl rfl (Still.pickF rfl rfl rfl) ?_
      refine RunL.nil ?_
      exact Ends.meet1 (Fr.Sub.cons (by first | exact congrArg (fun b => some (Value.bool b)) (decide_eq_true (by omega)).symm | exact congrArg (fun b => some (Value.bool b)) (decide_eq_false (by omega)).symm | exact congrArg (fun b => some (Value.bool b)) (decide_eq_decide.2 (by omega))) (Fr.Sub.nil _)) (Fr.Sub.cons rfl (Fr.Sub.cons rfl (Fr.Sub.cons rfl (Fr.Sub.cons rfl (Fr.Sub.cons rfl (Fr.Sub.nil _)))))) (HSub.pick 0 rfl (HSub.pick 0 rfl (HSub.pick 0 rfl (HSub.pick 0 rfl (HSub.pick 0 rfl (HSub.nil _))))))
  ·
    refine Ends.then ?_
    refine RunC.cond rfl (fun h46 => ?_) (fun h46 => ?_)
    · have h46 := of_decide_eq_true h46
      exact absurd h46 (by omega)
    · have h46 := of_decide_eq_false h46
      refine RunC.skip ?_
      refine Ends.then ?_
      refine RunC.seq ?_
      refine RunC.region ?_
      refine RunL.still rfl rfl rfl (Still.loads rfl rfl Tryz.isAgg24 Tryz.sizeOf24 (vs := [_, _]) rfl (fun _ hs => cells_nth (hs.at (i := 0) rfl) ⟨rfl, ⟨rfl, trivial⟩⟩)) ?_
      refine RunL.grows rfl rfl rfl (Grows.call (vs := #[_]) rfl rfl Tryz.call67 (fun w hs => dg_ends q.1 _ q.2 (uniD a b) w (DiaAt.of_ownD hU (hs.at (i := 1) rfl)))) (fun ve _ => ?_)
      refine RunL.conv (fun _ hs => hs.re 0 rfl (own_ends_ok hU ve)) ?_
      refine RunL.still rfl rfl rfl (Still.move rfl rfl) ?_
      refine RunL.still rfl rfl rfl (Still.extractN rfl rfl rfl) ?_
      refine RunL.still rfl rfl rfl (Still.extractN rfl rfl rfl) ?_
      refine RunL.still rfl rfl rfl (Still.assign rfl rfl) ?_
      refine RunL.still rfl rfl rfl (Still.assign rfl rfl) ?_
      refine RunL.nil ?_
      refine Ends.then ?_
      refine RunC.seq ?_
      refine RunC.region ?_
      refine RunL.still rfl rfl rfl (Still.move rfl rfl) ?_
      refine RunL.still rfl rfl rfl (Still.fieldAddrL (off := 0) (off' := 0) rfl rfl Tryz.underlying24 rfl Tryz.sizeOf22 rfl) ?_
      refine RunL.still rfl rfl rfl (Still.load rfl rfl Tryz.isAgg22 (fun _ hs => cell_nth (hs.at (i := 5) rfl) rfl)) ?_
      refine RunL.still rfl rfl rfl (Still.lenSlice rfl rfl Tryz.underlying22) ?_
      refine RunL.still rfl rfl rfl (Still.mul rfl rfl rfl (fits64 (by omega) (by omega))) ?_
      refine RunL.still rfl rfl rfl (Still.add rfl rfl rfl (fits64 (by omega) (by omega))) ?_
      refine RunL.still rfl rfl rfl (Still.assign rfl rfl) ?_
      refine RunL.nil ?_
      refine Ends.then ?_
      refine RunC.seq ?_
      refine RunC.meetG (γ := Nat × Nat) (keep := [(1, _), (8, _), (10, _), (15, _)]) (hkeep := [_, _, _, _, _, _]) (fun (b16, b17) => True) (fun (b16, b17) => [(16, .pointer (some ⟨b16, 0, none⟩)), (17, .pointer (some ⟨b17, 0, none⟩))]) (fun (b16, b17) => [HL.obj b16 (.cells #[iv (((inQ (uniD a b) i) / 4 : Nat) : Int), iv (((inQ (uniD a b) i) % 4 : Nat) : Int)] 110 (0, 0)), HL.obj b17 (.cells #[iv (((inQ (uniD a b) (j + 2 * a.cross.length)) / 4 : Nat) : Int), iv (((inQ (uniD a b) (j + 2 * a.cross.length)) % 4 : Nat) : Int)] 110 (0, 0))]) (Fr.Sub.cons rfl (Fr.Sub.cons rfl (Fr.Sub.cons rfl (Fr.Sub.cons rfl (Fr.Sub.nil _))))) (HSub.pick 0 rfl (HSub.pick 0 rfl (HSub.pick 0 rfl (HSub.pick 0 rfl (HSub.pick 0 rfl (HSub.pick 0 rfl (HSub.nil _))))))) ?_ ?_
      ·
        refine RunC.drawH 13 (.still 0 (.still 1 (.still 2 (.still 3 (.still 4 (.still 5 (.still 6 (.still 7 (.still 8 (.still 9 (.two 10 (.one 11 (.one 12 .done)) 11 (.one 10 (.one 12 .done))))))))))))) (by kernel_rfl) (by kernel_rfl) ?_
        refine RunH.still rfl rfl rfl rfl (Still.move rfl rfl) ?_
        refine RunH.still rfl rfl rfl rfl (Still.move rfl rfl) ?_
        refine RunH.still rfl rfl rfl rfl (Still.indexOwnI (m := i.toNat) rfl rfl rfl Tryz.underlying87 Tryz.sizeOf112 (fun _ hs => hs.own (i := 0) rfl) (by omega) (by omega)) ?_
        refine RunH.still rfl rfl rfl rfl (Still.fieldAddrA (off := 2) rfl rfl Tryz.underlying112 rfl Tryz.sizeOf110 rfl) ?_
        refine RunH.still rfl rfl rfl rfl (Still.loads rfl rfl Tryz.isAgg110 Tryz.sizeOf110 (vs := [iv (((inQ (uniD a b) i) / 4 : Nat) : Int), iv (((inQ (uniD a b) i) % 4 : Nat) : Int)]) rfl (fun w hs => own_cells2 (hs.own (i := 0) rfl) (ends_in hU (k := i) (by omega) (by omega)))) ?_
        refine RunH.still rfl rfl rfl rfl (Still.move rfl rfl) ?_
        refine RunH.still rfl rfl rfl rfl (Still.move rfl rfl) ?_
        refine RunH.still rfl rfl rfl rfl (Still.indexOwnI (m := (j + 2 * a.cross.length).toNat) rfl rfl rfl Tryz.underlying87 Tryz.sizeOf112 (fun _ hs => hs.own (i := 0) rfl) (by omega) (by omega)) ?_
        refine RunH.still rfl rfl rfl rfl (Still.fieldAddrA (off := 2) rfl rfl Tryz.underlying112 rfl Tryz.sizeOf110 rfl) ?_
        refine RunH.still rfl rfl rfl rfl (Still.loads rfl rfl Tryz.isAgg110 Tryz.sizeOf110 (vs := [iv (((inQ (uniD a b) (j + 2 * a.cross.length)) / 4 : Nat) : Int), iv (((inQ (uniD a b) (j + 2 * a.cross.length)) % 4 : Nat) : Int)]) rfl (fun w hs => own_cells2 (hs.own (i := 0) rfl) (ends_in hU (k := (j + 2 * a.cross.length)) (by omega) (by omega)))) ?_
        refine RunH.news ?_
        refine RunN.two ?_ ?_
        ·
          refine RunN.alloc rfl rfl rfl rfl rfl Tryz.zeroValue110 (fun b16 => ?_)
          refine RunN.alloc rfl rfl rfl rfl rfl Tryz.zeroValue110 (fun b17 => ?_)
          refine RunN.store rfl rfl rfl rfl rfl rfl (m := 1) rfl Tryz.sizeOf110 rfl rfl rfl (by simp) ?_
          refine RunN.done ?_
          show RunL _ _ _ [_] _ _
          refine RunL.does0 rfl rfl (Does.store rfl rfl rfl (i := 0) rfl Tryz.sizeOf110 rfl (rfl) rfl) (fun _ _ => ?_)
          refine RunL.nil ?_
          exact Ends.meetG (b16, b17) trivial (Fr.Sub.cons rfl (Fr.Sub.cons rfl (Fr.Sub.nil _))) (Fr.Sub.cons rfl (Fr.Sub.cons rfl (Fr.Sub.cons rfl (Fr.Sub.cons rfl (Fr.Sub.nil _))))) (HSub.pick 1 rfl (HSub.pick 0 rfl (HSub.pick 0 rfl (HSub.pick 0 rfl (HSub.pick 0 rfl (HSub.pick 0 rfl (HSub.pick 0 rfl (HSub.pick 0 rfl (HSub.nil _)))))))))
        ·
          refine RunN.alloc rfl rfl rfl rfl rfl Tryz.zeroValue110 (fun b17 => ?_)
          refine RunN.alloc rfl rfl rfl rfl rfl Tryz.zeroValue110 (fun b16 => ?_)
          refine RunN.store rfl rfl rfl rfl rfl rfl (m := 0) rfl Tryz.sizeOf110 rfl rfl rfl (by simp) ?_
          refine RunN.done ?_
          show RunL _ _ _ [_] _ _
          refine RunL.does0 rfl rfl (Does.store rfl rfl rfl (i := 1) rfl Tryz.sizeOf110 rfl (rfl) rfl) (fun _ _ => ?_)
          refine RunL.nil ?_
          exact Ends.meetG (b16, b17) trivial (Fr.Sub.cons rfl (Fr.Sub.cons rfl (Fr.Sub.nil _))) (Fr.Sub.cons rfl (Fr.Sub.cons rfl (Fr.Sub.cons rfl (Fr.Sub.cons rfl (Fr.Sub.nil _))))) (HSub.pick 0 rfl (HSub.pick 0 rfl (HSub.pick 0 rfl (HSub.pick 0 rfl (HSub.pick 0 rfl (HSub.pick 0 rfl (HSub.pick 0 rfl (HSub.pick 0 rfl (HSub.nil _)))))))))
      · rintro ⟨b16, b17⟩ _
        refine Ends.then ?_
        refine RunC.seq ?_
        refine RunC.draw 10 (.still 0 (.still 1 (.still 2 (.still 3 (.still 4 (.still 5 (.still 6 (.still 7 (.still 8 (.still 9 .done)))))))))) (by kernel_rfl) (by kernel_rfl) ?_
        refine RunG.still rfl rfl rfl rfl (Still.fieldAddrL (off := 0) (off' := 0) rfl rfl Tryz.underlying24 rfl Tryz.sizeOf22 rfl) ?_
        refine RunG.still rfl rfl rfl rfl (Still.load rfl rfl Tryz.isAgg22 (fun _ hs => cell_nth (hs.at (i := 3) rfl) rfl)) ?_
        refine RunG.still rfl rfl rfl rfl (Still.fieldAddrL (off := 0) (off' := 0) rfl rfl Tryz.underlying110 rfl Tryz.sizeOf3 rfl) ?_
        refine RunG.still rfl rfl rfl rfl (Still.load rfl rfl Tryz.isAgg3 (fun _ hs => cell_nth (hs.at (i := 0) rfl) rfl)) ?_
        refine RunG.still rfl rfl rfl rfl (Still.fieldAddrL (off := 0) (off' := 1) rfl rfl Tryz.underlying110 rfl Tryz.sizeOf3 rfl) ?_
        refine RunG.still rfl rfl rfl rfl (Still.load rfl rfl Tryz.isAgg3 (fun _ hs => cell_nth (hs.at (i := 0) rfl) rfl)) ?_
        refine RunG.still rfl rfl rfl rfl (Still.move rfl rfl) ?_
        refine RunG.still rfl rfl rfl rfl (Still.indexOwnI (m := ((inQ (uniD a b) i) / 4)) rfl rfl rfl Tryz.underlying22 Tryz.sizeOf62 (fun _ hs => hs.own (i := 4) rfl) (rfl) (by omega)) ?_
        refine RunG.still rfl rfl rfl rfl (Still.fieldAddrA (off := 0) rfl rfl Tryz.underlying62 rfl Tryz.sizeOf60 rfl) ?_
        refine RunG.still rfl rfl rfl rfl (Still.indexArrE ((inQ (uniD a b) i) % 4) rfl rfl rfl Tryz.underlying60 Tryz.sizeOf3 (rfl) (by omega)) ?_
        refine RunG.done ?_
        show RunL _ _ _ [_] _ _
        refine RunL.does0 rfl rfl (Does.storeOwn1 (xs' := ((setQ (uniD a b) (inQ (uniD a b) i) (j + 2 * a.cross.length)).cross.flatMap encCr)) rfl rfl ((congrArg (fun z => Addr.add z _) (add_add _ _ _)).trans (add_add _ _ _)) rfl (i := 4) rfl Tryz.sizeOf3 rfl (by rw [flat_len encCr_len]; omega) (by rw [Nat.mul_one, Nat.add_zero]; exact setQ_flat hX _)) (fun _ _ => ?_)
        refine RunL.nil ?_
        refine Ends.then ?_
        refine RunC.seq ?_
        refine RunC.draw 10 (.still 0 (.still 1 (.still 2 (.still 3 (.still 4 (.still 5 (.still 6 (.still 7 (.still 8 (.still 9 .done)))))))))) (by kernel_rfl) (by kernel_rfl) ?_
        refine RunG.still rfl rfl rfl rfl (Still.fieldAddrL (off := 0) (off' := 0) rfl rfl Tryz.underlying24 rfl Tryz.sizeOf22 rfl) ?_
        refine RunG.still rfl rfl rfl rfl (Still.load rfl rfl Tryz.isAgg22 (fun _ hs => cell_nth (hs.at (i := 3) rfl) rfl)) ?_
        refine RunG.still rfl rfl rfl rfl (Still.fieldAddrL (off := 0) (off' := 0) rfl rfl Tryz.underlying110 rfl Tryz.sizeOf3 rfl) ?_
        refine RunG.still rfl rfl rfl rfl (Still.load rfl rfl Tryz.isAgg3 (fun _ hs => cell_nth (hs.at (i := 1) rfl) rfl)) ?_
        refine RunG.still rfl rfl rfl rfl (Still.fieldAddrL (off := 0) (off' := 1) rfl rfl Tryz.underlying110 rfl Tryz.sizeOf3 rfl) ?_
        refine RunG.still rfl rfl rfl rfl (Still.load rfl rfl Tryz.isAgg3 (fun _ hs => cell_nth (hs.at (i := 1) rfl) rfl)) ?_
        refine RunG.still rfl rfl rfl rfl (Still.move rfl rfl) ?_
        refine RunG.still rfl rfl rfl rfl (Still.indexOwnI (m := ((inQ (uniD a b) (j + 2 * a.cross.length)) / 4)) rfl rfl rfl Tryz.underlying22 Tryz.sizeOf62 (fun _ hs => hs.own (i := 4) rfl) (rfl) (by omega)) ?_
        refine RunG.still rfl rfl rfl rfl (Still.fieldAddrA (off := 0) rfl rfl Tryz.underlying62 rfl Tryz.sizeOf60 rfl) ?_
        refine RunG.still rfl rfl rfl rfl (Still.indexArrE ((inQ (uniD a b) (j + 2 * a.cross.length)) % 4) rfl rfl rfl Tryz.underlying60 Tryz.sizeOf3 (rfl) (by omega)) ?_
        refine RunG.done ?_
        show RunL _ _ _ [_] _ _
        refine RunL.does0 rfl rfl (Does.storeOwn1 (xs' := ((splD a b i j).cross.flatMap encCr)) rfl rfl ((congrArg (fun z => Addr.add z _) (add_add _ _ _)).trans (add_add _ _ _)) rfl (i := 4) rfl Tryz.sizeOf3 rfl (by rw [flat_len encCr_len, setQ_len]; omega) (by rw [Nat.mul_one, Nat.add_zero]; exact setQ_flat hY2 _)) (fun _ _ => ?_)
        refine RunL.nil ?_
        refine Ends.then ?_
        refine RunC.seq ?_
        refine RunC.region ?_
        refine RunL.still rfl rfl rfl (Still.loads rfl rfl Tryz.isAgg24 Tryz.sizeOf24 (vs := [_, _]) rfl (fun _ hs => cells_nth (hs.at (i := 3) rfl) ⟨rfl, ⟨rfl, trivial⟩⟩)) ?_
        refine RunL.does0 rfl rfl (Does.store rfl rfl rfl (i := 5) rfl Tryz.sizeOf24 rfl (rfl) rfl) (fun _ _ => ?_)
        refine RunL.still rfl rfl rfl (Still.assign rfl rfl) ?_
        refine RunL.nil ?_
        refine Ends.then ?_
        refine RunC.ret ?_
        refine Ends.leave (.inl rfl) (fun _ _ ok => results2 Tryz.results29 (Holds.cell rfl (fun _ hs => load_cells (vs := [_, _]) Tryz.isAgg24 Tryz.sizeOf24 rfl (cells_nth (hs.at (i := 5) rfl) ⟨rfl, ⟨rfl, trivial⟩⟩))) (Holds.tmp rfl) ok) (fun w1 hs => ?_)
        exact Ret.intro q (by rw [OKB, splD_len]; exact hq) (by show _ = Value.tuple #[diaV q.1 q.2 (splD a b i j), iv 0]; simp only [diaV, splD_len]; rfl) (HSub.pick 4 (by rw [ownD_spl]; rfl) (HSub.nil _)) hs

end Go.Proofs
/- Texts of diagrams: the reference reads exactly what is written. -/
namespace Go.V
open Go
end Go.V
/- Texts of diagrams: what is read is what was written. -/
namespace Go.V
open Go
end Go.V
/- Texts of diagrams: the text of a valid diagram is read back. -/
namespace Go.V
open Go
theorem mid_of_sound {d : Dia} (h : SoundP d) : ∀ x ∈ d.cross, MidCr x := fun x hx p hp => by
  have h1 := (h.2.2.2.1 x hx).2 p hp
  have h2 := h.1
  omega
end Go.V
/- The proof layer: regions that draw their order, step by step, with as many ready operations as there may be: what looks comes first, then what makes memory and stores into it. -/
namespace Go.V
open Go
section drawm
variable {C : Cx} {Q : Exit → Act → World → Prop} {F : Fr} {L : List HL} {l : List Oper} {o : Oper} {n g f i : Nat} {ns : List Nat} {S : Array Bool}
/-- What the head leaves: the rest in the order of the text. -/
def EndM (C : Cx) (Q : Exit → Act → World → Prop) (l : List Oper) (n : Nat) (S : Array Bool) (a : Act) (w : World) : Prop := Region.seqB .any l.toArray (l.toArray.size - n) n S = true ∧ wpListIn (FW C.r) 0 C.P l.toArray Q (l.drop n) a w
structure HeadM (l : List Oper) (n : Nat) : Prop where
  sel : Region.noSelect l.toArray = true
  dfr : noDefer l.toArray = true
  lt : n < l.toArray.size
  snk : Region.sinkB .any l.toArray n = true
  chn : Region.chainB .any l.toArray n = true
def headMB (ops : Array Oper) (n : Nat) : Bool := Region.noSelect ops && noDefer ops && Nat.blt n ops.size && Region.sinkB .any ops n && Region.chainB .any ops n
def RunM (C : Cx) (Q : Exit → Act → World → Prop) (l : List Oper) (n f : Nat) (S : Array Bool) (ns : List Nat) (F : Fr) (L : List HL) : Prop :=
  ∀ a w B, HeadM l n → Old Nil B w → (∀ b ∈ ns, B.heap.size ≤ b) → HeadInv .any l.toArray n S → Ok C F L a w → wpHeadB C.r C.P .any l.toArray n B (EndM C Q l n) f S a w
def RunM0 (C : Cx) (Q : Exit → Act → World → Prop) (l : List Oper) (n f : Nat) (S : Array Bool) (F : Fr) (L : List HL) : Prop :=
  ∀ a w, HeadM l n → HeadInv .any l.toArray n S → Ok C F L a w → wpHeadB C.r C.P .any l.toArray n w (EndM C Q l n) f S a w
def StepM (C : Cx) (Q : Exit → Act → World → Prop) (l : List Oper) (n f : Nat) (S : Array Bool) (ns : List Nat) (i : Nat) (F : Fr) (L : List HL) : Prop :=
  ∀ a w B, HeadM l n → Old Nil B w → (∀ b ∈ ns, B.heap.size ≤ b) → HeadInv .any l.toArray n (S.setIfInBounds i true) → Ok C F L a w →
    wpOpIn (FW C.r) 0 C.P l.toArray NoQ i (fun a' w' => Old Nil B w' ∧ wpHeadB C.r C.P .any l.toArray n B (EndM C Q l n) f (S.setIfInBounds i true) a' w') a w
theorem RunC.drawM {id : Nat} (n : Nat) (hm : C.P.follows .mixedOrders = true) (hB : headMB l.toArray n = true) (h : RunM0 C Q l n n (Array.replicate l.toArray.size false) F L) : RunC C (.region id l.toArray true) Q F L := fun a w ok => by
  simp only [headMB, Bool.and_eq_true] at hB
  obtain ⟨⟨⟨⟨hsel, hdef⟩, hn⟩, hs⟩, hc⟩ := hB
  have hn' : n < l.toArray.size := by simpa using hn
  have inv0 : HeadInv .any l.toArray n (Array.replicate l.toArray.size false) :=
    ⟨by simp, fun j oj _ hl => (by rw [getD_replicate_false] at hl; cases hl), fun t _ ht => getD_in (by simpa using ht) (getD_replicate_false _ _)⟩
  have H := h a w.drew ⟨hsel, hdef, hn', hs, hc⟩ inv0 ⟨ok.fr, ok.sym.drew⟩
  refine wpIn_region_any hm ?_
  have hdl : (l.drop n).length = l.toArray.size - n := by simp
  have := wpAny_of_headB (Q := Q) (g := l.toArray.size - n) (fun listed a' w' hL => by
    have := wpAny_of_seq' (r := C.r) (P := C.P) (md := .any) (Q := Q) (l.drop n) n listed a' w' (fun j => by simp [List.getElem?_drop]) (by rw [hdl]; exact hL.1) hL.2
    rwa [hdl] at this) _ _ _ _ H
  rw [show n + (l.toArray.size - n) = l.toArray.size by omega] at this
  exact this
theorem RunM0.news (h : RunM C Q l n f S [] F L) : RunM0 C Q l n f S F L := fun a w hh inv ok => h a w w hh (Old.refl _ w) (fun _ h => by cases h) inv ok
theorem RunM0.still {d : Nat} {v : Value} (ho : l.toArray[i]? = some o) (hw : wants l.toArray F o = some true) (hd : o.dst = some d) (hn : Nat.blt d C.n = true) (hs : Still C o F L v) (hr : (Region.ready .any l.toArray S).contains i = true) (hf : Region.free .any l.toArray S i = true) (hin : Nat.blt i n = true)
    (h : RunM0 C Q l n f (S.setIfInBounds i true) ((d, v) :: F) L) : RunM0 C Q l n (f + 1) S F L := fun a w hh inv ok => by
  have hin' : i < n := by simpa using hin
  have hr' : i ∈ Region.ready .any l.toArray S := by simpa using hr
  refine wpHeadB_first ho hh.sel hh.dfr hh.snk hh.chn hh.lt hin' (fun listed' a' w' hL => seqB_ready hL.1) f S a w inv (Region.free_spec ho hf) hr' (.inl ⟨wants_ok ok hw, fun w' hold => hs.2 a w' ⟨ok.fr, ok.sym.grow0 hold⟩⟩) (Old.refl _ w) ?_
  refine h _ w hh (inv.set hr' hin') ?_
  rw [hd]
  exact ⟨ok.fr.put (by simpa using hn) v, ok.sym⟩
theorem RunM.pure {d : Nat} {v : Value} (ho : l.toArray[i]? = some o) (hw : wants l.toArray F o = some true) (hd : o.dst = some d) (hn : Nat.blt d C.n = true) (hs : ∀ w0, Still { C with w0 := w0 } o F [] v) (hr : (Region.ready .any l.toArray S).contains i = true) (hf : Region.free .any l.toArray S i = true) (hin : Nat.blt i n = true)
    (h : RunM C Q l n f (S.setIfInBounds i true) ns ((d, v) :: F) L) : RunM C Q l n (f + 1) S ns F L := fun a w B hh hO hns inv ok => by
  have hin' : i < n := by simpa using hin
  have hr' : i ∈ Region.ready .any l.toArray S := by simpa using hr
  refine wpHeadB_first ho hh.sel hh.dfr hh.snk hh.chn hh.lt hin' (fun listed' a' w' hL => seqB_ready hL.1) f S a w inv (Region.free_spec ho hf) hr' (.inl ⟨wants_ok ok hw, fun w' hold => (hs w').2 a w' ⟨ok.fr, Sym.nil w' C.S⟩⟩) hO ?_
  refine h _ w B hh hO hns (inv.set hr' hin') ?_
  rw [hd]
  exact ⟨ok.fr.put (by simpa using hn) v, ok.sym⟩
theorem RunM.pick (k : List Nat) (hr : Region.ready .any l.toArray S = k) (hk : k.all (fun i => Nat.blt i n) = true) (hne : k.isEmpty = false) (h : ∀ i ∈ k, StepM C Q l n f S ns i F L) : RunM C Q l n (f + 1) S ns F L := fun a w B hh hO hns inv ok => by
  refine ⟨fun e => ?_, fun i hi => ?_⟩
  · rw [hr] at e; subst e; cases hne
  · have hik : i ∈ k := hr ▸ hi
    have hin : i < n := by simpa using List.all_eq_true.1 hk i hik
    exact ⟨hin, h i hik a w B hh hO hns (inv.set hi hin) ok⟩
theorem RunM.done (hq : Region.seqB .any l.toArray (l.toArray.size - n) n S = true) (h : RunL C l.toArray Q (l.drop n) F L) : RunM C Q l n 0 S ns F L := fun a w _ _ _ _ _ ok => ⟨hq, h a w ok⟩
theorem StepM.grows {d : Nat} {γ : Type} {φ : γ → Prop} {V : γ → Value} {H : γ → List HL} (ho : l.toArray[i]? = some o) (hw : wants l.toArray F o = some true) (hd : o.dst = some d) (hn : Nat.blt d C.n = true) (hg : Grows C o F L φ V H)
    (h : ∀ g, φ g → RunM C Q l n f (S.setIfInBounds i true) ns ((d, V g) :: F) (H g ++ L)) : StepM C Q l n f S ns i F L := fun a w B hh hO hns inv ok => by
  unfold wpOpIn
  simp only [ho, wants_ok ok hw, if_true]
  refine hg a w ok _ _ (fun g w' hφ hold hs => ⟨hO.trans hold, h g hφ _ w' B hh (hO.trans hold) hns inv ?_⟩)
  rw [hd]
  exact ⟨ok.fr.put (by simpa using hn) _, hs⟩
theorem StepM.alloc {d : Nat} {t : TypeId} {z : Value} (ho : l.toArray[i]? = some o) (hw : wants l.toArray F o = some true) (hd : o.dst = some d) (hn : Nat.blt d C.n = true) (hop : o.op = .alloc t) (hz : ∀ w, (zeroValue t).run C.P w = .ok z w)
    (h : ∀ b, RunM C Q l n f (S.setIfInBounds i true) (b :: ns) ((d, .pointer (some ⟨b, 0, none⟩)) :: F) (HL.obj b (.cells z.cells t (0, 0)) :: L)) : StepM C Q l n f S ns i F L := fun a w B hh hO hns inv ok => by
  unfold wpOpIn
  simp only [ho, wants_ok ok hw, if_true]
  have hr : (execOp a.eval o).run C.P w = .ok (.value (.pointer (some ⟨w.heap.size, 0, none⟩))) (w.alloc (.cells z.cells t (0, 0))) := by simp [execOp, hop, Instr.alloc, hz, newVar, newRow]
  refine wpIn_value (fun c h => (by rw [hop] at h; cases h)) hr ?_
  have hO2 := hO.trans (Old.alloc Nil w (.cells z.cells t (0, 0)))
  refine ⟨hO2, h w.heap.size _ _ B hh hO2 (fun b hb => ?_) inv ?_⟩
  · rcases List.mem_cons.1 hb with rfl | hb
    · exact hO.size
    · exact hns b hb
  · rw [hd]
    exact ⟨ok.fr.put (by simpa using hn) _, ok.sym.alloc _⟩
theorem StepM.store {t : TypeId} {x y : Operand} {m b k p : Nat} {cs : Array Value} {e : TypeId} {v : Value} (ho : l.toArray[i]? = some o) (hw : wants l.toArray F o = some true) (hd : o.dst = none) (hop : o.op = .store t x y) (hx : F.ev x = some (.pointer (some ⟨b, k, none⟩))) (hy : F.ev y = some v)
    (hi : L[m]? = some (HL.obj b (.cells cs e (0, 0)))) (hz : ∀ w, (sizeOf t).run C.P w = .ok p w) (hn : v.cells.size = p) (hk : Nat.ble (k + p) cs.size = true) (h1 : v.cells.toList.all Value.oneCell' = true) (hb : b ∈ ns)
    (h : RunM C Q l n f (S.setIfInBounds i true) ns F (L.set m (HL.obj b (.cells (putAll cs k v.cells.toList) e (0, 0))))) : StepM C Q l n f S ns i F L := fun a w B hh hO hns inv ok => by
  unfold wpOpIn
  simp only [ho, wants_ok ok hw, if_true]
  obtain ⟨w', hr, hh2, hold, hsz⟩ := run_storeCells_own (P := C.P) v.cells.toList 0 k cs w (ok.sym.at hi) (by have := Nat.le_of_ble_eq_true hk; simp [hn]; omega) (List.all_eq_true.1 h1)
  simp only [Nat.add_zero] at hh2
  refine wpIn_skip' (fun c h => (by rw [hop] at h; cases h)) (w' := w') ?_ ?_
  · simp only [execOp, hop, ok.fr.ev hx, ok.fr.ev hy]
    simp [Instr.storeAt, Instr.sureAddr, storeVar, hn, hz, hr]
  · have hO2 : Old Nil B w' := ⟨hold.os.trans hO.os, hold.tape.trans hO.tape, hold.output.trans hO.output, Nat.le_trans hO.size hold.size, fun c hc hn' => (hold.block c (Nat.lt_of_lt_of_le hc hO.size) (fun e => by
      have e : c = b := e
      have := hns b hb
      omega)).trans (hO.block c hc hn'), fun f => Nat.le_trans (hO.more f) (hold.more f)⟩
    refine ⟨hO2, h _ w' B hh hO2 hns inv ?_⟩
    rw [hd]
    exact ⟨ok.fr, ok.sym.turn hi (fun c hc => ⟨.inl hc, by have e : c = b := hc; subst e; rw [hsz]; exact ok.sym.lt hi⟩) hold hh2⟩
end drawm
end Go.V
/- The proof layer: what is appended to an empty slice, whatever it is. -/
namespace Go.V
open Go
theorem Still.toGrows {C : Cx} {F : Fr} {L : List HL} {o : Oper} {v : Value} (hs : Still C o F L v) : Grows C o F L (fun u : Value => u = v) (fun u => u) (fun _ => []) := fun _ w ok _ _ h => still_wpIn hs ok (h v w rfl (Old.refl _ w) ok.sym)
/-- A slice of n elements; it owns its cells if there are any. -/
def HL.own0 (e : TypeId) (k : Nat) (v : Value) (n : Nat) (xs : List Value) : HL := if n = 0 then HL.emp else HL.own e k v n xs
theorem own0_cells {w : World} {e k n : Nat} {v : Value} {xs : List Value} (h : (HL.own0 e k v n xs).holds w) (hl : xs.length = n * k) : Cells w (vaddr v) xs := by
  by_cases h0 : n = 0
  · subst h0
    have : xs = [] := List.length_eq_zero_iff.1 (by omega)
    rw [this]; exact fun j u hj => by simp at hj
  · have h1 : (HL.own e k v n xs).holds w := by rw [HL.own0, if_neg h0] at h; exact h
    exact own_all h1
theorem Grows.appendAny0 {C : Cx} {F : Fr} {L : List HL} {o : Oper} {t e ty : TypeId} {x y : Operand} {i k m c bytes : Nat} {b p : Option Addr} {z : Value} {news : List Value} {A : Addr} (ho : o.op = .call { callee := .builtin .append, args := #[x, y], argTypes := #[t, t] }) (hty : o.type = ty)
    (hx : F.ev x = some (.slice b 0 0)) (hb : b.isSome = true) (hy : F.ev y = some (.slice p m c)) (hp : 0 < m → p = some A) (hi : L[i]? = some (HL.own e k (.slice b 0 0) 0 [])) (ht : C.P.underlying t = some (.slice e))
    (hinf : (C.P.info? e).map (fun i => (i.zero, i.size, i.bytes)) = some (some z, k, bytes)) (hzs : z.cells.size = k)
    (hnews : ∀ w, Sym C.w0 C.S L w → Cells w A news) (hl : news.length = m * k) (hby : m * bytes ≤ 140737488355328) (hm : m ≤ 9223372036854775807) :
    Grows C o F L (fun v : Value => Shape v m) (fun v => v) (fun v => [HL.own0 e k v m news]) := by
  obtain ⟨b, rfl⟩ := Option.isSome_iff_exists.1 hb
  by_cases h0 : m = 0
  · obtain ⟨inf, hi0, hi1, hi2, hi3⟩ := info_parts hinf
    have h := (Still.appendNil (C := C) (F := F) (L := L) ho hty hx hy h0 hi ht hi0).toGrows
    refine fun a w ok next Q kk => h a w ok next Q fun g w' hg hold hs => kk g w' ?_ hold ?_
    · rw [hg, h0]; exact ⟨_, _, rfl, fun q => absurd q (Nat.lt_irrefl _)⟩
    · show Sym C.w0 C.S (HL.own0 e k g m news :: L) w'
      rw [HL.own0, if_pos h0]; exact Sym.emp hs
  · have hpA := hp (by omega)
    subst hpA
    have h := Grows.appendNew (C := C) (F := F) (L := L) (news := news) ho hty hx hy (by omega) ht hinf hzs hnews hl hby hm
    refine fun a w ok next Q kk => h a w ok next Q fun g w' hg hold hs => kk g w' hg hold ?_
    show Sym C.w0 C.S (HL.own0 e k g m news :: L) w'
    rw [HL.own0, if_neg h0]; exact hs
/-- The same; what came out is named by where it lies. -/
theorem Grows.appendAny1 {C : Cx} {F : Fr} {L : List HL} {o : Oper} {t e ty : TypeId} {x y : Operand} {i k m c bytes : Nat} {b p : Option Addr} {z : Value} {news : List Value} {A : Addr} (ho : o.op = .call { callee := .builtin .append, args := #[x, y], argTypes := #[t, t] }) (hty : o.type = ty)
    (hx : F.ev x = some (.slice b 0 0)) (hb : b.isSome = true) (hy : F.ev y = some (.slice p m c)) (hp : 0 < m → p = some A) (hi : L[i]? = some (HL.own e k (.slice b 0 0) 0 [])) (ht : C.P.underlying t = some (.slice e))
    (hinf : (C.P.info? e).map (fun i => (i.zero, i.size, i.bytes)) = some (some z, k, bytes)) (hzs : z.cells.size = k)
    (hnews : ∀ w, Sym C.w0 C.S L w → Cells w A news) (hl : news.length = m * k) (hby : m * bytes ≤ 140737488355328) (hm : m ≤ 9223372036854775807) :
    Grows C o F L (fun g : Option Addr × Nat => Shape (.slice g.1 m g.2) m) (fun g => .slice g.1 m g.2) (fun g => [HL.own0 e k (.slice g.1 m g.2) m news]) := by
  refine fun a w ok next Q kk => Grows.appendAny0 ho hty hx hb hy hp hi ht hinf hzs hnews hl hby hm a w ok next Q fun g w' hg hold hs => ?_
  obtain ⟨ub, uc, rfl, hu⟩ := hg
  exact kk (ub, uc) w' ⟨ub, uc, rfl, hu⟩ hold hs
end Go.V
