/- What the statements of chapter 22 share: same, hopf, sane, large. -/
import Derived.Test.YtbodmnijpdffaaaGreatDoorM2
import Derived.Test.YtbodmnijpdffaaaGreatDoorM0
import Derived.Test.YtbodmnijpdffaaaGreatDoorProg
import Derived.KernelRfl
import Derived.Test.YtbodmnijpdffaaaGreatDoorM1
import Derived.Lib.AtoiAll
import Derived.Lib.Split
import Derived.Shelf.SlGeneric
import Derived.Shelf.SlSortCmp.Whole1
import Derived.Ground.SlsfProg
import Derived.Lib.SmallJoins
namespace Go.Proofs
open Go Go.V
set_option maxRecDepth 20000
theorem lw_same (v u : Value) (xs ys : List Int) (w : World) (hv : Shape v xs.length) (hu : Shape u ys.length) (hc : Cells w (vaddr v) (ints xs)) (hd : Cells w (vaddr u) (ints ys)) (hl : xs.length ≤ 1000) : Gives Tryz.prog 30 #[v, u] w Nil (fun _ : Unit => True) (fun _ => .bool (decide (xs = ys))) (fun _ => []) := by
  refine fn_of_run (S := Nil) (args := [v, u]) (n := 26) (L := []) Tryz.func30 rfl Tryz.ntmps30 (Nat.le_of_ble_eq_true rfl) (Sym.nil _ _) ?_
  change RunC _ _ _ [(0, _), (1, _)] _
  refine RunC.seq ?_
  refine RunC.region ?_
  refine RunL.still rfl rfl rfl (Still.assign rfl rfl) ?_
  refine RunL.nil ?_
  refine Ends.then ?_
  refine RunC.seq ?_
  refine RunC.seq ?_
  refine RunC.region ?_
  refine RunL.still rfl rfl rfl (Still.move rfl rfl) ?_
  refine RunL.still rfl rfl rfl (Still.lenV rfl rfl Tryz.underlying36 (hv)) ?_
  refine RunL.still rfl rfl rfl (Still.move rfl rfl) ?_
  refine RunL.still rfl rfl rfl (Still.lenV rfl rfl Tryz.underlying36 (hu)) ?_
  refine RunL.still rfl rfl rfl (Still.neq rfl rfl rfl) ?_
  refine RunL.nil ?_
  refine Ends.then ?_
  refine RunC.cond rfl (fun h10 => ?_) (fun h10 => ?_)
  · have h10 := of_decide_eq_true h10
    refine RunC.seq ?_
    refine RunC.region ?_
    refine RunL.still rfl rfl rfl (Still.assign rfl rfl) ?_
    refine RunL.nil ?_
    refine Ends.then ?_
    refine RunC.ret ?_
    refine Ends.then_ret ?_
    refine Ends.leave (.inl rfl) (fun _ _ ok => results1 Tryz.results30 (Holds.tmp rfl) ok) (fun w1 hs => ?_)
    exact Ret.intro () trivial (congrArg Value.bool (decide_eq_false (fun e => h10 (by rw [e]))).symm) (HSub.nil _) hs
  · have h10 := of_decide_eq_false h10
    refine RunC.skip ?_
    refine Ends.then ?_
    refine RunC.seq ?_
    refine RunC.seq ?_
    refine RunC.region ?_
    refine RunL.still rfl rfl rfl (Still.assign rfl rfl) ?_
    refine RunL.nil ?_
    refine Ends.then ?_
    refine RunC.block ?_
    refine RunC.loop2 (γ := Nat) (keep := [(0, _), (1, _)]) (hkeep := []) (fun i => i ≤ xs.length ∧ ∀ j, j < i → xs[j]? = ys[j]?) (fun i => xs.length - i) (fun i => [(5, iv i)]) (fun i => []) 0 ⟨by omega, fun j h => by omega⟩ (Fr.Sub.cons rfl (Fr.Sub.nil _)) (Fr.Sub.cons rfl (Fr.Sub.cons rfl (Fr.Sub.nil _))) (HSub.nil _) ?_
    rintro i ⟨hi, he⟩
    refine RunC.seq ?_
    refine RunC.seq ?_
    refine RunC.region ?_
    refine RunL.still rfl rfl rfl (Still.move rfl rfl) ?_
    refine RunL.still rfl rfl rfl (Still.move rfl rfl) ?_
    refine RunL.still rfl rfl rfl (Still.lenV rfl rfl Tryz.underlying36 (hv)) ?_
    refine RunL.still rfl rfl rfl (Still.lss rfl rfl rfl) ?_
    refine RunL.nil ?_
    refine Ends.then ?_
    refine RunC.cond rfl (fun h14 => ?_) (fun h14 => ?_)
    · have h14 := of_decide_eq_true h14
      obtain ⟨x, hx⟩ := get_of_lt (l := xs) (i := i) (by omega)
      obtain ⟨y, hy⟩ := get_of_lt (l := ys) (i := i) (by omega)
      refine RunC.skip ?_
      refine Ends.then ?_
      refine RunC.seq ?_
      refine RunC.block ?_
      refine RunC.seq ?_
      refine RunC.draw 8 (.still 0 (.still 1 (.still 2 (.still 3 (.still 4 (.still 5 (.still 6 (.still 7 .done)))))))) (by kernel_rfl) (by kernel_rfl) ?_
      refine RunG.still rfl rfl rfl rfl (Still.move rfl rfl) ?_
      refine RunG.still rfl rfl rfl rfl (Still.move rfl rfl) ?_
      refine RunG.still rfl rfl rfl rfl (Still.indexV _ rfl rfl rfl Tryz.underlying36 Tryz.sizeOf3 (hv) (rfl) (by omega)) ?_
      refine RunG.still rfl rfl rfl rfl (Still.load rfl rfl Tryz.isAgg3 (fun _ hs => cells_at (Cells.base0 hc hs) (ints_get hx))) ?_
      refine RunG.still rfl rfl rfl rfl (Still.move rfl rfl) ?_
      refine RunG.still rfl rfl rfl rfl (Still.move rfl rfl) ?_
      refine RunG.still rfl rfl rfl rfl (Still.indexV _ rfl rfl rfl Tryz.underlying36 Tryz.sizeOf3 (hu) (rfl) (by omega)) ?_
      refine RunG.still rfl rfl rfl rfl (Still.load rfl rfl Tryz.isAgg3 (fun _ hs => cells_at (Cells.base0 hd hs) (ints_get hy))) ?_
      refine RunG.done ?_
      show RunL _ _ _ [_] _ _
      refine RunL.still rfl rfl rfl (Still.neq rfl rfl rfl) ?_
      refine RunL.nil ?_
      refine Ends.then ?_
      refine RunC.cond rfl (fun h25 => ?_) (fun h25 => ?_)
      · have h25 := of_decide_eq_true h25
        refine RunC.seq ?_
        refine RunC.region ?_
        refine RunL.still rfl rfl rfl (Still.assign rfl rfl) ?_
        refine RunL.nil ?_
        refine Ends.then ?_
        refine RunC.ret ?_
        refine Ends.block_ret ?_
        refine Ends.then_ret ?_
        refine Ends.then_ret ?_
        refine Ends.block_ret ?_
        refine Ends.then_ret ?_
        refine Ends.leave (.inl rfl) (fun _ _ ok => results1 Tryz.results30 (Holds.tmp rfl) ok) (fun w2 hs => ?_)
        exact Ret.intro () trivial (congrArg Value.bool (decide_eq_false (fun e => h25 (by rw [e] at hx; rw [hx] at hy; exact Option.some.inj hy))).symm) (HSub.nil _) hs
      · have h25 := of_decide_eq_false h25
        refine RunC.skip ?_
        refine Ends.block ?_
        refine Ends.then ?_
        refine RunC.region ?_
        refine RunL.still rfl rfl rfl (Still.move rfl rfl) ?_
        refine RunL.still rfl rfl rfl (Still.add rfl rfl rfl (fits64 (by omega) (by omega))) ?_
        refine RunL.still rfl rfl rfl (Still.assign rfl rfl) ?_
        refine RunL.nil ?_
        refine Ends.again (i + 1) ?_ ?_ (Fr.Sub.app ?_ ?_) ?_
        · exact ⟨by omega, fun j h => by rcases Nat.lt_or_ge j i with h2 | h2; exact he j h2; obtain rfl : j = i := (by omega); rw [hx, hy]; congr 1; omega⟩
        · show _ < _; omega
        · exact Fr.Sub.cons rfl (Fr.Sub.nil _)
        · exact Fr.Sub.cons rfl (Fr.Sub.cons rfl (Fr.Sub.nil _))
        · exact HSub.nil _
    · have h14 := of_decide_eq_false h14
      refine RunC.exit ?_
      refine Ends.then_exit ?_
      refine Ends.then_exit ?_
      refine Ends.block_exit ?_
      refine Ends.then ?_
      refine RunC.seq ?_
      refine RunC.region ?_
      refine RunL.still rfl rfl rfl (Still.assign rfl rfl) ?_
      refine RunL.nil ?_
      refine Ends.then ?_
      refine RunC.ret ?_
      refine Ends.leave (.inl rfl) (fun _ _ ok => results1 Tryz.results30 (Holds.tmp rfl) ok) (fun w3 hs => ?_)
      exact Ret.intro () trivial (congrArg Value.bool (decide_eq_true (List.ext_getElem? fun j => by rcases Nat.lt_or_ge j xs.length with h | h; exact he j (by omega); rw [List.getElem?_eq_none (by omega), List.getElem?_eq_none (by omega)])).symm) (HSub.nil _) hs

theorem lw_hopf (w : World) : Gives Tryz.prog 44 #[] w Nil (fun _ : Nat => True) (fun b => diaV (some ⟨b, 0, none⟩) 2 hopfD) (fun b => [ownD (some ⟨b, 0, none⟩, 2) hopfD]) := by
  refine fn_of_run (S := Nil) (args := []) (n := 7) (L := []) Tryz.func44 rfl Tryz.ntmps44 (Nat.le_of_ble_eq_true rfl) (Sym.nil _ _) ?_
  change RunC _ _ _ [] _
  refine RunC.seq ?_
  refine RunC.region ?_
  refine RunL.grows rfl rfl rfl (Grows.alloc rfl Tryz.zeroValue24) (fun b0 _ => ?_)
  refine RunL.nil ?_
  refine Ends.then ?_
  refine RunC.seq ?_
  refine RunC.region ?_
  refine RunL.still rfl rfl rfl (Still.build_1_1_1_1 (fun x0_0 x1_0 x2_0 x3_0 => .agg #[x0_0, x1_0, x2_0, x3_0]) rfl rfl rfl rfl rfl (fun _ => by kernel_rfl)) ?_
  refine RunL.still rfl rfl rfl (Still.build_4_1 (fun x0_0 x0_1 x0_2 x0_3 x1_0 => .agg #[x0_0, x0_1, x0_2, x0_3, x1_0]) rfl rfl rfl (fun _ => by kernel_rfl)) ?_
  refine RunL.still rfl rfl rfl (Still.build_1_1_1_1 (fun x0_0 x1_0 x2_0 x3_0 => .agg #[x0_0, x1_0, x2_0, x3_0]) rfl rfl rfl rfl rfl (fun _ => by kernel_rfl)) ?_
  refine RunL.still rfl rfl rfl (Still.build_4_1 (fun x0_0 x0_1 x0_2 x0_3 x1_0 => .agg #[x0_0, x0_1, x0_2, x0_3, x1_0]) rfl rfl rfl (fun _ => by kernel_rfl)) ?_
  refine RunL.grows rfl rfl rfl (Grows.buildSlice (vs := #[(0, _), (1, _)]) (cells := #[iv 0, iv 3, iv 1, iv 2, iv 1, iv 3, iv 0, iv 2, iv 1, iv 1]) rfl rfl Tryz.underlying22 Tryz.sizeOf62 Tryz.zeroValue62 (by decide) (by kernel_rfl)) (fun b5 _ => ?_)
  refine RunL.conv (fun _ hs => Sym.obj_own (k := 5) (n := 2) hs rfl (by omega)) ?_
  refine RunL.still rfl rfl rfl (Still.build_1 (fun x0_0 => .agg #[x0_0, .int .i64 0]) rfl rfl (fun _ => by kernel_rfl)) ?_
  refine RunL.does0 rfl rfl (Does.store rfl rfl rfl (i := 1) rfl Tryz.sizeOf24 rfl (rfl) rfl) (fun _ _ => ?_)
  refine RunL.nil ?_
  refine Ends.then ?_
  refine RunC.ret ?_
  refine Ends.leave (.inl rfl) (fun _ _ ok => results1 Tryz.results44 (Holds.cell rfl (fun _ hs => load_cells (vs := [_, _]) Tryz.isAgg24 Tryz.sizeOf24 rfl (cells_nth (hs.at (i := 1) rfl) ⟨rfl, ⟨rfl, trivial⟩⟩))) ok) (fun w1 hs => ?_)
  exact Ret.intro b5 trivial rfl (HSub.pick 0 rfl (HSub.nil _)) hs

theorem lw_sane (w : World) : Gives Tryz.prog 13 #[] w Nil (fun _ : Unit => True) (fun _ => .bool true) (fun _ => []) := by
  refine fn_of_run (S := Nil) (args := []) (n := 105) (L := []) Tryz.func13 rfl Tryz.ntmps13 (Nat.le_of_ble_eq_true rfl) (Sym.nil _ _) ?_
  change RunC _ _ _ [] _
  refine RunC.seq ?_
  refine RunC.region ?_
  refine RunL.still rfl rfl rfl (Still.assign rfl rfl) ?_
  refine RunL.nil ?_
  refine Ends.then ?_
  refine RunC.seq ?_
  refine RunC.region ?_
  refine RunL.grows rfl rfl rfl (Grows.call (vs := #[]) rfl rfl Tryz.call44 (fun w hs => lw_hopf w)) (fun g1 _ => ?_)
  refine RunL.grows rfl rfl rfl (Grows.call (vs := #[_]) rfl rfl Tryz.call21 (fun w hs => dg_Components_ok _ _ _ hopfD w (DiaAt.of_ownD hopf_sound (hs.at (i := 0) rfl)) hopf_ok)) (fun ov hov => ?_)
  refine RunL.still rfl rfl rfl (Still.move rfl rfl) ?_
  refine RunL.still rfl rfl rfl (Still.extractN rfl rfl rfl) ?_
  refine RunL.still rfl rfl rfl (Still.extractN rfl rfl rfl) ?_
  refine RunL.still rfl rfl rfl (Still.extractN rfl rfl rfl) ?_
  refine RunL.still rfl rfl rfl (Still.assign rfl rfl) ?_
  refine RunL.still rfl rfl rfl (Still.assign rfl rfl) ?_
  refine RunL.still rfl rfl rfl (Still.assign rfl rfl) ?_
  refine RunL.nil ?_
  refine Ends.then ?_
  refine RunC.seq ?_
  refine RunC.region ?_
  refine RunL.grows rfl rfl rfl (Grows.call (vs := #[]) rfl rfl Tryz.call44 (fun w hs => lw_hopf w)) (fun g2 _ => ?_)
  refine RunL.grows rfl rfl rfl (Grows.call (vs := #[_]) rfl rfl Tryz.call23 (fun w hs => dg_Writhe_ok _ _ _ hopfD w (DiaAt.of_ownD hopf_sound (hs.at (i := 0) rfl)) hopf_ok)) (fun _ _ => ?_)
  refine RunL.still rfl rfl rfl (Still.move rfl rfl) ?_
  refine RunL.still rfl rfl rfl (Still.extractN rfl rfl rfl) ?_
  refine RunL.still rfl rfl rfl (Still.extractN rfl rfl rfl) ?_
  refine RunL.still rfl rfl rfl (Still.assign rfl rfl) ?_
  refine RunL.still rfl rfl rfl (Still.assign rfl rfl) ?_
  refine RunL.nil ?_
  refine Ends.then ?_
  refine RunC.seq ?_
  refine RunC.region ?_
  refine RunL.grows rfl rfl rfl (Grows.call (vs := #[]) rfl rfl Tryz.call44 (fun w hs => lw_hopf w)) (fun g3 _ => ?_)
  refine RunL.grows rfl rfl rfl (Grows.call (vs := #[_, _, _]) rfl rfl Tryz.call24 (fun w hs => dg_Linking_ok _ _ _ hopfD 0 1 w (DiaAt.of_ownD hopf_sound (hs.at (i := 0) rfl)) hopf_ok)) (fun _ _ => ?_)
  refine RunL.still rfl rfl rfl (Still.move rfl rfl) ?_
  refine RunL.still rfl rfl rfl (Still.extractN rfl rfl rfl) ?_
  refine RunL.still rfl rfl rfl (Still.extractN rfl rfl rfl) ?_
  refine RunL.still rfl rfl rfl (Still.assign rfl rfl) ?_
  refine RunL.still rfl rfl rfl (Still.assign rfl rfl) ?_
  refine RunL.nil ?_
  refine Ends.then ?_
  refine RunC.seq ?_
  refine RunC.region ?_
  refine RunL.grows rfl rfl rfl (Grows.call (vs := #[]) rfl rfl Tryz.call44 (fun w hs => lw_hopf w)) (fun g4 _ => ?_)
  refine RunL.grows rfl rfl rfl (Grows.call (vs := #[_]) rfl rfl Tryz.call25 (fun w hs => dg_Mirror_ok _ _ _ hopfD w (DiaAt.of_ownD hopf_sound (hs.at (i := 0) rfl)) hopf_ok)) (fun mq hmq => ?_)
  rw [mir_hopf]
  refine RunL.still rfl rfl rfl (Still.move rfl rfl) ?_
  refine RunL.still rfl rfl rfl (Still.extractN rfl rfl rfl) ?_
  refine RunL.still rfl rfl rfl (Still.extractN rfl rfl rfl) ?_
  refine RunL.grows rfl rfl rfl (Grows.alloc rfl Tryz.zeroValue24) (fun b8 _ => ?_)
  refine RunL.does0 rfl rfl (Does.store rfl rfl rfl (i := 0) rfl Tryz.sizeOf24 rfl (rfl) rfl) (fun _ _ => ?_)
  refine RunL.still rfl rfl rfl (Still.assign rfl rfl) ?_
  refine RunL.nil ?_
  refine Ends.then ?_
  refine RunC.seq ?_
  refine RunC.region ?_
  refine RunL.still rfl rfl rfl (Still.loads rfl rfl Tryz.isAgg24 Tryz.sizeOf24 (vs := [_, _]) rfl (fun _ hs => cells_nth (hs.at (i := 0) rfl) ⟨rfl, ⟨rfl, trivial⟩⟩)) ?_
  refine RunL.grows rfl rfl rfl (Grows.call (vs := #[_]) rfl rfl Tryz.call7 (fun w hs => dg_Text_ok _ _ _ mirH w (DiaAt.of_ownD mirH_sound (hs.at (i := 1) rfl)) mirH_ok mirH_small (by decide))) (fun _ _ => ?_)
  refine RunL.still rfl rfl rfl (Still.move rfl rfl) ?_
  refine RunL.still rfl rfl rfl (Still.extractN rfl rfl rfl) ?_
  refine RunL.still rfl rfl rfl (Still.extractN rfl rfl rfl) ?_
  refine RunL.still rfl rfl rfl (Still.assign rfl rfl) ?_
  refine RunL.still rfl rfl rfl (Still.assign rfl rfl) ?_
  refine RunL.nil ?_
  refine Ends.then ?_
  refine RunC.seq ?_
  refine RunC.region ?_
  refine RunL.grows rfl rfl rfl (Grows.call (vs := #[]) rfl rfl Tryz.call44 (fun w hs => lw_hopf w)) (fun g5 _ => ?_)
  refine RunL.grows rfl rfl rfl (Grows.call (vs := #[_]) rfl rfl Tryz.call22 (fun w hs => dg_Regions_ok _ _ _ hopfD w (DiaAt.of_ownD hopf_sound (hs.at (i := 0) rfl)) hopf_ok)) (fun ⟨rv, rs⟩ hrs => ?_)
  have hrl : rs.length = 4 := by have h1 : rs.map Prod.snd = regsOf hopfD := hrs.1; rw [← hopf_regs, ← h1, List.length_map]
  refine RunL.still rfl rfl rfl (Still.move rfl rfl) ?_
  refine RunL.still rfl rfl rfl (Still.extractN rfl rfl rfl) ?_
  refine RunL.still rfl rfl rfl (Still.extractN rfl rfl rfl) ?_
  refine RunL.still rfl rfl rfl (Still.assign rfl rfl) ?_
  refine RunL.still rfl rfl rfl (Still.assign rfl rfl) ?_
  refine RunL.nil ?_
  refine Ends.then ?_
  refine RunC.seq ?_
  refine RunC.region ?_
  refine RunL.grows rfl rfl rfl (Grows.call (vs := #[]) rfl rfl Tryz.call44 (fun w hs => lw_hopf w)) (fun g6 _ => ?_)
  refine RunL.grows rfl rfl rfl (Grows.alloc rfl Tryz.zeroValue24) (fun b14 _ => ?_)
  refine RunL.does0 rfl rfl (Does.store rfl rfl rfl (i := 0) rfl Tryz.sizeOf24 rfl (rfl) rfl) (fun _ _ => ?_)
  refine RunL.nil ?_
  refine Ends.then ?_
  refine RunC.seq ?_
  refine RunC.region ?_
  refine RunL.still rfl rfl rfl (Still.fieldAddrL (off := 0) (off' := 0) rfl rfl Tryz.underlying24 rfl Tryz.sizeOf22 rfl) ?_
  refine RunL.still rfl rfl rfl (Still.load rfl rfl Tryz.isAgg22 (fun _ hs => cell_nth (hs.at (i := 0) rfl) rfl)) ?_
  refine RunL.still rfl rfl rfl (Still.build_1_1_1_1 (fun x0_0 x1_0 x2_0 x3_0 => .agg #[x0_0, x1_0, x2_0, x3_0]) rfl rfl rfl rfl rfl (fun _ => by kernel_rfl)) ?_
  refine RunL.still rfl rfl rfl (Still.build_4_1 (fun x0_0 x0_1 x0_2 x0_3 x1_0 => .agg #[x0_0, x0_1, x0_2, x0_3, x1_0]) rfl rfl rfl (fun _ => by kernel_rfl)) ?_
  refine RunL.still rfl rfl rfl (Still.indexOwnI (m := 1) rfl rfl rfl Tryz.underlying22 Tryz.sizeOf62 (fun _ hs => hs.own (i := 1) rfl) (rfl) (by decide)) ?_
  refine RunL.does0 rfl rfl (Does.storeOwn (xs' := (flatD.cross.flatMap encCr)) rfl rfl rfl rfl (i := 1) rfl Tryz.sizeOf62 rfl (by decide) rfl (by decide) (fun i => by rw [show flatD.cross = hopfD.cross.set 1 ⟨3, 1, 2, 0, -1⟩ from rfl]; exact flat_set encCr_len (by decide) _ (by decide) i)) (fun _ _ => ?_)
  refine RunL.nil ?_
  refine Ends.then ?_
  refine RunC.seq ?_
  refine RunC.region ?_
  refine RunL.still rfl rfl rfl (Still.move rfl rfl) ?_
  refine RunL.still rfl rfl rfl (Still.eql rfl rfl rfl) ?_
  refine RunL.again (t := 53) (u := .bool true) rfl (rfl) ?_
  refine RunL.still rfl rfl rfl (Still.move rfl rfl) ?_
  refine RunL.still rfl rfl rfl (Still.move rfl rfl) ?_
  refine RunL.still rfl rfl rfl (Still.eql rfl rfl rfl) ?_
  refine RunL.again (t := 56) (u := .bool true) rfl (rfl) ?_
  refine RunL.still rfl rfl rfl (Still.pickT rfl rfl rfl) ?_
  refine RunL.still rfl rfl rfl (Still.move rfl rfl) ?_
  refine RunL.still rfl rfl rfl (Still.move rfl rfl) ?_
  refine RunL.still rfl rfl rfl (Still.eql rfl rfl rfl) ?_
  refine RunL.again (t := 60) (u := .bool true) rfl (congrArg Value.bool (decide_eq_true hopf_linkE)) ?_
  refine RunL.still rfl rfl rfl (Still.pickT rfl rfl rfl) ?_
  refine RunL.still rfl rfl rfl (Still.move rfl rfl) ?_
  refine RunL.still rfl rfl rfl (Still.move rfl rfl) ?_
  refine RunL.still rfl rfl rfl (Still.eql rfl rfl rfl) ?_
  refine RunL.again (t := 64) (u := .bool true) rfl (rfl) ?_
  refine RunL.still rfl rfl rfl (Still.pickT rfl rfl rfl) ?_
  refine RunL.still rfl rfl rfl (Still.move rfl rfl) ?_
  refine RunL.still rfl rfl rfl (Still.move rfl rfl) ?_
  refine RunL.still rfl rfl rfl (Still.eql rfl rfl rfl) ?_
  refine RunL.again (t := 68) (u := .bool true) rfl (rfl) ?_
  refine RunL.still rfl rfl rfl (Still.pickT rfl rfl rfl) ?_
  refine RunL.still rfl rfl rfl (Still.move rfl rfl) ?_
  refine RunL.still rfl rfl rfl (Still.move rfl rfl) ?_
  refine RunL.still rfl rfl rfl (Still.eql rfl rfl rfl) ?_
  refine RunL.again (t := 72) (u := .bool true) rfl (rfl) ?_
  refine RunL.still rfl rfl rfl (Still.pickT rfl rfl rfl) ?_
  refine RunL.still rfl rfl rfl (Still.move rfl rfl) ?_
  refine RunL.still rfl rfl rfl (Still.move rfl rfl) ?_
  refine RunL.grows rfl rfl rfl (Grows.buildSlice (vs := #[(0, _), (1, _), (2, _), (3, _)]) (cells := #[iv 0, iv 0, iv 1, iv 1]) rfl rfl Tryz.underlying36 Tryz.sizeOf3 Tryz.zeroValue3 (by decide) (by kernel_rfl)) (fun b76 _ => ?_)
  refine RunL.conv (fun _ hs => Sym.obj_own (k := 1) (n := 4) hs rfl (by omega)) ?_
  refine RunL.grows rfl rfl rfl (Grows.call (vs := #[_, _]) rfl rfl Tryz.call30 (fun w hs => lw_same _ _ (compOf hopfD) [0, 0, 1, 1] w hov (own_shape (hs.own (i := 0) rfl)) (own_all (hs.own (i := 11) rfl)) (own_all (hs.own (i := 0) rfl)) (by decide +kernel))) (fun _ _ => ?_)
  refine RunL.again (t := 77) (u := .bool true) rfl (congrArg Value.bool (decide_eq_true hopf_comp)) ?_
  refine RunL.still rfl rfl rfl (Still.pickT rfl rfl rfl) ?_
  refine RunL.still rfl rfl rfl (Still.move rfl rfl) ?_
  refine RunL.still rfl rfl rfl (Still.move rfl rfl) ?_
  refine RunL.still rfl rfl rfl (Still.eql rfl rfl rfl) ?_
  refine RunL.again (t := 81) (u := .bool true) rfl (congrArg Value.bool (decide_eq_true (by rw [hopf_count]; rfl))) ?_
  refine RunL.still rfl rfl rfl (Still.pickT rfl rfl rfl) ?_
  refine RunL.still rfl rfl rfl (Still.move rfl rfl) ?_
  refine RunL.still rfl rfl rfl (Still.move rfl rfl) ?_
  refine RunL.still rfl rfl rfl (Still.eql rfl rfl rfl) ?_
  refine RunL.again (t := 85) (u := .bool true) rfl (congrArg Value.bool (decide_eq_true hopf_writhe)) ?_
  refine RunL.still rfl rfl rfl (Still.pickT rfl rfl rfl) ?_
  refine RunL.still rfl rfl rfl (Still.move rfl rfl) ?_
  refine RunL.still rfl rfl rfl (Still.move rfl rfl) ?_
  refine RunL.still rfl rfl rfl (Still.eql rfl rfl rfl) ?_
  refine RunL.again (t := 89) (u := .bool true) rfl (congrArg Value.bool (decide_eq_true hopf_linkR)) ?_
  refine RunL.still rfl rfl rfl (Still.pickT rfl rfl rfl) ?_
  refine RunL.still rfl rfl rfl (Still.move rfl rfl) ?_
  refine RunL.still rfl rfl rfl (Still.move rfl rfl) ?_
  refine RunL.still rfl rfl rfl (Still.eqlStrT rfl rfl rfl (mirH_text)) ?_
  refine RunL.again (t := 93) (u := .bool true) rfl (rfl) ?_
  refine RunL.still rfl rfl rfl (Still.pickT rfl rfl rfl) ?_
  refine RunL.still rfl rfl rfl (Still.move rfl rfl) ?_
  refine RunL.still rfl rfl rfl (Still.move rfl rfl) ?_
  refine RunL.still rfl rfl rfl (Still.lenOwn rfl rfl Tryz.underlying45 (fun _ hs => hs.own (i := 3) rfl)) ?_
  refine RunL.still rfl rfl rfl (Still.eql rfl rfl rfl) ?_
  refine RunL.again (t := 98) (u := .bool true) rfl (congrArg Value.bool (decide_eq_true (show ((rs.length : Nat) : Int) = 4 by rw [hrl]; rfl))) ?_
  refine RunL.still rfl rfl rfl (Still.pickT rfl rfl rfl) ?_
  refine RunL.still rfl rfl rfl (Still.move rfl rfl) ?_
  refine RunL.still rfl rfl rfl (Still.loads rfl rfl Tryz.isAgg24 Tryz.sizeOf24 (vs := [_, _]) rfl (fun _ hs => cells_nth (hs.at (i := 1) rfl) ⟨rfl, ⟨rfl, trivial⟩⟩)) ?_
  refine RunL.grows rfl rfl rfl (Grows.call (vs := #[_]) rfl rfl Tryz.call20 (fun w hs => dg_Check _ _ _ flatD w (DiaAt.of_ownD flat_sound (g := (some ⟨g6, 0, none⟩, 2)) (hs.at (i := 2) rfl)))) (fun _ _ => ?_)
  refine RunL.still rfl rfl rfl (Still.eql rfl rfl rfl) ?_
  refine RunL.again (t := 103) (u := .bool true) rfl (congrArg Value.bool (decide_eq_true flat_bad)) ?_
  refine RunL.still rfl rfl rfl (Still.pickT rfl rfl rfl) ?_
  refine RunL.still rfl rfl rfl (Still.assign rfl rfl) ?_
  refine RunL.nil ?_
  refine Ends.then ?_
  refine RunC.ret ?_
  refine Ends.leave (.inl rfl) (fun _ _ ok => results1 Tryz.results13 (Holds.tmp rfl) ok) (fun w1 hs => ?_)
  exact Ret.intro () trivial rfl (HSub.nil _) hs

end Go.Proofs
/- Numbers as text. -/
namespace Go.V
open Go
theorem decDigits_le (u : Nat) : (Lib.decDigits u).length ≤ u + 1 := by
  induction u using Nat.strongRecOn with
  | ind u ih =>
    rw [Lib.decDigits]
    split
    · simp
    · have := ih (u / 10) (by omega)
      simp only [List.length_append, List.length_singleton]; omega
theorem numS_le (n : Int) : (numS n).size ≤ n.toNat + 1 := by
  show (Lib.decDigits n.toNat).toArray.size ≤ _
  simpa using decDigits_le n.toNat
end Go.V
/- Texts of diagrams: what the reference reads (positions in a text). -/
namespace Go.V
open Go
theorem own_oneCell {w : World} {e k n : Nat} {v : Value} {xs : List Value} (h : w.ownsRow 0 e k v n xs) : v.oneCell' = true := by
  obtain ⟨b, c, hv, _⟩ := own_shape h
  rw [hv]; rfl
end Go.V
/- Texts of diagrams: sizes, joins. -/
namespace Go.V
open Go
/-- Numbers of a text. -/
def MidCr (x : Cr) : Prop := ∀ p, p < 4 → 0 ≤ x.arc p ∧ x.arc p ≤ 1000
theorem numS_mid {n : Int} (h0 : 0 ≤ n) (h : n ≤ 1000) : (numS n).size ≤ 1001 := by have := numS_le n; omega
theorem crTo_mid {x : Cr} (h : MidCr x) : ∀ p, p ≤ 4 → (crTo x p).size ≤ 1 + 1002 * p
  | 0, _ => by rw [crTo, sgnS_size]; omega
  | p + 1, hp => by
    have h1 := crTo_mid h p (by omega)
    have h2 := numS_mid (h p (by omega)).1 (h p (by omega)).2
    rw [crTo, ByteArray.size_append, ByteArray.size_append, show (⟨#[32]⟩ : ByteArray).size = 1 from rfl]; omega
theorem crS_mid {l : List Cr} (h : ∀ x ∈ l, MidCr x) : ∀ s ∈ l.map crS, s.size ≤ 4009 := fun s hs => by
  obtain ⟨x, hx, rfl⟩ := List.mem_map.1 hs
  exact crTo_mid (h x hx) 4 (by omega)
theorem nth_arc {x : Cr} {p : Nat} (hp : p < 4) : nth [iv x.a0, iv x.a1, iv x.a2, iv x.a3, iv x.s] (0 + p * 1) = some (iv (x.arc p)) := by
  match p, hp with
  | 0, _ => rfl
  | 1, _ => rfl
  | 2, _ => rfl
  | 3, _ => rfl
end Go.V
/- Texts of diagrams: what the program reads. -/
namespace Go.V
open Go
end Go.V
/- Texts of diagrams: cutting and joining. -/
namespace Go.V
open Go
end Go.V
/- The standard numbering, as the program walks it. -/
namespace Go.Proofs
open Go Go.V
set_option maxRecDepth 20000
theorem mkI : MKey Tryz.prog 3 encI := MKey.int Tryz.underlying3

theorem z_meet (wb mc ma b : Nat) (ov : Value) (l : List Nat) (c : Nat) (w : World) (hs0 : Sym w (SK [HL.obj wb (.cells #[.map (some mc), .map (some ma), ov, ptrV b] 133 (0, 0)), HL.mp mc encI (enumM l), HL.own 3 1 ov l.length (ints (nI l))]) [HL.obj wb (.cells #[.map (some mc), .map (some ma), ov, ptrV b] 133 (0, 0)), HL.mp mc encI (enumM l), HL.own 3 1 ov l.length (ints (nI l))] w) (hlen : l.length ≤ 1000) : Gives Tryz.prog 78 #[ptrV wb, iv c] w (SK [HL.obj wb (.cells #[.map (some mc), .map (some ma), ov, ptrV b] 133 (0, 0)), HL.mp mc encI (enumM l), HL.own 3 1 ov l.length (ints (nI l))]) (fun _ : Value => True) (fun _ => .tuple #[]) (fun v => [HL.obj wb (.cells #[.map (some mc), .map (some ma), v, ptrV b] 133 (0, 0)), HL.mp mc encI (enumM (nbAdd l c)), HL.own 3 1 v (nbAdd l c).length (ints (nI (nbAdd l c)))]) := by
  refine fn_of_run (S := (SK [HL.obj wb (.cells #[.map (some mc), .map (some ma), ov, ptrV b] 133 (0, 0)), HL.mp mc encI (enumM l), HL.own 3 1 ov l.length (ints (nI l))])) (args := [ptrV wb, iv c]) (n := 37) (L := [HL.obj wb (.cells #[.map (some mc), .map (some ma), ov, ptrV b] 133 (0, 0)), HL.mp mc encI (enumM l), HL.own 3 1 ov l.length (ints (nI l))]) Tryz.func78 rfl Tryz.ntmps78 (Nat.le_of_ble_eq_true rfl) hs0 ?_
  change RunC _ _ _ [(0, _), (1, _)] _
  refine RunC.seq ?_
  refine RunC.region ?_
  refine RunL.still rfl rfl rfl (Still.move rfl rfl) ?_
  refine RunL.still rfl rfl rfl (Still.nilCheck rfl rfl) ?_
  refine RunL.still rfl rfl rfl (Still.fieldAddrL (off := 0) (off' := 0) rfl rfl Tryz.underlying131 rfl Tryz.sizeOf129 rfl) ?_
  refine RunL.still rfl rfl rfl (Still.load rfl rfl Tryz.isAgg129 (fun _ hs => cell_nth (hs.at (i := 0) rfl) rfl)) ?_
  refine RunL.still rfl rfl rfl (Still.move rfl rfl) ?_
  refine RunL.still rfl rfl rfl (Still.lookup2 (k := (c : Int)) rfl rfl rfl (i := 1) rfl Tryz.underlying129 mkI Tryz.zeroValue3 rfl (enumM_is c l)) ?_
  refine RunL.still rfl rfl rfl (Still.move rfl rfl) ?_
  refine RunL.still rfl rfl rfl (Still.extractN rfl rfl rfl) ?_
  refine RunL.still rfl rfl rfl (Still.extractN rfl rfl rfl) ?_
  refine RunL.still rfl rfl rfl (Still.assign rfl rfl) ?_
  refine RunL.still rfl rfl rfl (Still.assign rfl rfl) ?_
  refine RunL.nil ?_
  refine Ends.then ?_
  refine RunC.seq ?_
  refine RunC.region ?_
  refine RunL.still rfl rfl rfl (Still.move rfl rfl) ?_
  refine RunL.still rfl rfl rfl (Still.not rfl rfl) ?_
  refine RunL.nil ?_
  refine Ends.then ?_
  refine RunC.cond rfl (fun h16 => ?_) (fun h16 => ?_)
  · have h16 : c ∉ l := by simpa using h16
    refine RunC.seq ?_
    refine RunC.draw 10 (.still 0 (.still 1 (.still 2 (.still 3 (.still 4 (.still 5 (.still 6 (.still 7 (.still 8 (.still 9 .done)))))))))) (by kernel_rfl) (by kernel_rfl) ?_
    refine RunG.still rfl rfl rfl rfl (Still.move rfl rfl) ?_
    refine RunG.still rfl rfl rfl rfl (Still.nilCheck rfl rfl) ?_
    refine RunG.still rfl rfl rfl rfl (Still.fieldAddrL (off := 0) (off' := 0) rfl rfl Tryz.underlying131 rfl Tryz.sizeOf129 rfl) ?_
    refine RunG.still rfl rfl rfl rfl (Still.load rfl rfl Tryz.isAgg129 (fun _ hs => cell_nth (hs.at (i := 0) rfl) rfl)) ?_
    refine RunG.still rfl rfl rfl rfl (Still.move rfl rfl) ?_
    refine RunG.still rfl rfl rfl rfl (Still.move rfl rfl) ?_
    refine RunG.still rfl rfl rfl rfl (Still.nilCheck rfl rfl) ?_
    refine RunG.still rfl rfl rfl rfl (Still.fieldAddrL (off := 0) (off' := 2) rfl rfl Tryz.underlying131 rfl Tryz.sizeOf36 rfl) ?_
    refine RunG.still rfl rfl rfl rfl (Still.load rfl rfl Tryz.isAgg36 (fun _ hs => cell_nth (hs.at (i := 0) rfl) rfl)) ?_
    refine RunG.still rfl rfl rfl rfl (Still.lenOwn rfl rfl Tryz.underlying36 (fun _ hs => hs.own (i := 2) rfl)) ?_
    refine RunG.done ?_
    show RunL _ _ _ [_] _ _
    refine RunL.does0 rfl rfl (Does.mapUpdate (k := (c : Int)) rfl rfl rfl rfl (i := 1) rfl Tryz.underlying129 mkI) (fun _ _ => ?_)
    refine RunL.nil ?_
    refine Ends.then ?_
    refine RunC.region ?_
    refine RunL.still rfl rfl rfl (Still.move rfl rfl) ?_
    refine RunL.still rfl rfl rfl (Still.move rfl rfl) ?_
    refine RunL.still rfl rfl rfl (Still.nilCheck rfl rfl) ?_
    refine RunL.still rfl rfl rfl (Still.fieldAddrL (off := 0) (off' := 2) rfl rfl Tryz.underlying131 rfl Tryz.sizeOf36 rfl) ?_
    refine RunL.still rfl rfl rfl (Still.load rfl rfl Tryz.isAgg36 (fun _ hs => cell_nth (hs.at (i := 0) rfl) rfl)) ?_
    refine RunL.still rfl rfl rfl (Still.move rfl rfl) ?_
    refine RunL.grows rfl rfl rfl (Grows.slice1 rfl rfl Tryz.underlying36 Tryz.sizeOf3 rfl Tryz.zeroValue3 (by decide)) (fun b33 _ => ?_)
    refine RunL.does rfl rfl rfl (Does.appendTo (n' := (l.length + 1)) (xs' := (ints (nI (l ++ [c])))) (news := [_]) rfl rfl rfl rfl (i := 3) rfl Tryz.underlying36 (by kernel_rfl : (_ : Option _) = some (some (.int .i64 0), 1, 8)) rfl rfl (fun _ hs => cells_nth (hs.at (i := 0) rfl) ⟨rfl, trivial⟩) rfl rfl (by omega) (by omega) (rfl) ((nI_snoc l c))) (fun v34 hv34 => ?_)
    refine RunL.know (fun _ hs => own_oneCell (hs.own (i := 3) rfl)) (fun h1v => ?_)
    refine RunL.still rfl rfl rfl (Still.nilCheck rfl rfl) ?_
    refine RunL.still rfl rfl rfl (Still.fieldAddrL (off := 0) (off' := 2) rfl rfl Tryz.underlying131 rfl Tryz.sizeOf36 rfl) ?_
    refine RunL.does0 rfl rfl (Does.store1 rfl rfl rfl (i := 1) rfl Tryz.sizeOf36 (h1v) (rfl)) (fun _ _ => ?_)
    refine RunL.conv (fun _ hs => hs.re 1 rfl (show _ = HL.obj wb (.cells #[.map (some mc), .map (some ma), v34, ptrV b] 133 (0, 0)) from rfl)) ?_
    refine RunL.nil ?_
    rw [show nbAdd l c = l ++ [c] from if_neg h16]
    refine Ends.leave (.inr rfl) (fun _ _ ok => results0 Tryz.results78  ok) (fun w1 hs => ?_)
    refine Ret.intro v34 trivial rfl ?_ hs
    exact (HSub.pick 1 rfl (HSub.pick 1 (congrArg (fun z => some (HL.mp mc encI z)) (enumM_put h16)) (HSub.pick 1 (by rw [List.length_append]; rfl) (HSub.nil _))))
  · have h16 : c ∈ l := by simpa using h16
    refine RunC.skip ?_
    rw [show nbAdd l c = l from if_pos h16]
    refine Ends.leave (.inr rfl) (fun _ _ ok => results0 Tryz.results78  ok) (fun w2 hs => ?_)
    exact Ret.intro ov trivial rfl (HSub.pick 0 rfl (HSub.pick 0 rfl (HSub.pick 0 rfl (HSub.nil _)))) hs

theorem z_leaving {d : Dia} (hS : SoundP d) {c : Nat} (hc : c < d.cross.length) (k : Nat) (w : World) : Gives Tryz.prog 80 #[crV (crAt d c), iv k] w Nil (fun _ : Unit => True) (fun _ => iv (outN (crAt d c) k : Nat)) (fun _ => []) := by
  have hsg := hS.sgn hc
  have hoi := outI hS hc k
  refine fn_of_run (S := Nil) (args := [crV (crAt d c), iv k]) (n := 16) (L := []) Tryz.func80 rfl Tryz.ntmps80 (Nat.le_of_ble_eq_true rfl) (Sym.nil _ _) ?_
  change RunC _ _ _ [(0, _), (1, _)] _
  refine RunC.seq ?_
  refine RunC.region ?_
  refine RunL.grows rfl rfl rfl (Grows.box rfl rfl) (fun b2 _ => ?_)
  refine RunL.still rfl rfl rfl (Still.assign rfl rfl) ?_
  refine RunL.nil ?_
  refine Ends.then ?_
  refine RunC.seq ?_
  refine RunC.seq ?_
  refine RunC.region ?_
  refine RunL.still rfl rfl rfl (Still.move rfl rfl) ?_
  refine RunL.still rfl rfl rfl (Still.eql rfl rfl rfl) ?_
  refine RunL.nil ?_
  refine Ends.then ?_
  refine RunC.cond rfl (fun h6 => ?_) (fun h6 => ?_)
  · have h6 := of_decide_eq_true h6
    have h6 : k = 0 := by omega
    refine RunC.seq ?_
    refine RunC.region ?_
    refine RunL.still rfl rfl rfl (Still.fieldAddrL (off := 0) (off' := 0) rfl rfl Tryz.underlying62 rfl Tryz.sizeOf60 rfl) ?_
    refine RunL.still rfl rfl rfl (Still.indexArrEL 2 rfl rfl rfl Tryz.underlying60 Tryz.sizeOf3 (rfl) (by omega)) ?_
    refine RunL.still rfl rfl rfl (Still.load rfl rfl Tryz.isAgg3 (fun _ hs => cell_nth (hs.at (i := 0) rfl) rfl)) ?_
    refine RunL.still rfl rfl rfl (Still.assign rfl rfl) ?_
    refine RunL.nil ?_
    refine Ends.then ?_
    refine RunC.ret ?_
    refine Ends.then_ret ?_
    refine Ends.leave (.inl rfl) (fun _ _ ok => results1 Tryz.results80 (Holds.tmp rfl) ok) (fun w1 hs => ?_)
    exact Ret.intro () trivial (congrArg iv (by rw [hoi, if_pos h6])) (HSub.nil _) hs
  · have h6 := of_decide_eq_false h6
    obtain ⟨m, hm, hm4, hma⟩ : ∃ m : Nat, 2 - (crAt d c).s = (m : Int) ∧ m < 4 ∧ (crAt d c).arc m = (if (crAt d c).s = 1 then (crAt d c).a1 else (crAt d c).a3) := hsg.elim (fun e => ⟨1, by omega, by decide, by rw [if_pos e]; rfl⟩) (fun e => ⟨3, by omega, by decide, by rw [if_neg (by omega)]; rfl⟩)
    refine RunC.skip ?_
    refine Ends.then ?_
    refine RunC.seq ?_
    refine RunC.region ?_
    refine RunL.still rfl rfl rfl (Still.fieldAddrL (off := 0) (off' := 4) rfl rfl Tryz.underlying62 rfl Tryz.sizeOf3 rfl) ?_
    refine RunL.still rfl rfl rfl (Still.load rfl rfl Tryz.isAgg3 (fun _ hs => cell_nth (hs.at (i := 0) rfl) rfl)) ?_
    refine RunL.still rfl rfl rfl (Still.sub rfl rfl rfl (fits64 (by omega) (by omega))) ?_
    refine RunL.still rfl rfl rfl (Still.fieldAddrL (off := 0) (off' := 0) rfl rfl Tryz.underlying62 rfl Tryz.sizeOf60 rfl) ?_
    refine RunL.still rfl rfl rfl (Still.indexArrEL m rfl rfl rfl Tryz.underlying60 Tryz.sizeOf3 (hm) (by omega)) ?_
    refine RunL.still rfl rfl rfl (Still.load (v := iv ((crAt d c).arc m)) rfl rfl Tryz.isAgg3 (fun _ hs => cell_nth (hs.at (i := 0) rfl) (nth_arc hm4))) ?_
    refine RunL.still rfl rfl rfl (Still.assign rfl rfl) ?_
    refine RunL.nil ?_
    refine Ends.then ?_
    refine RunC.ret ?_
    refine Ends.leave (.inl rfl) (fun _ _ ok => results1 Tryz.results80 (Holds.tmp rfl) ok) (fun w2 hs => ?_)
    exact Ret.intro () trivial (congrArg iv (by rw [hoi, if_neg (by omega), hma])) (HSub.nil _) hs

theorem z_strand (b : Nat) (base : Option Addr) (A : Addr) (cap : Nat) (d : Dia) (av : Value) (hS : SoundP d) (wb mc ma : Nat) (ov : Value) (s0 : Nb) (a0 : Nat) (w w00 : World) (hg : DgAt w00 b base A cap d av) (hO : Old Nil w00 w) (hf : ∀ c, SK [HL.obj wb (.cells #[.map (some mc), .map (some ma), ov, ptrV b] 133 (0, 0)), HL.mp mc encI (enumM s0.2), HL.mp ma encI (enumM s0.1), HL.own 3 1 ov s0.2.length (ints (nI s0.2))] c → w00.heap.size ≤ c) (hs0 : Sym w (SK [HL.obj wb (.cells #[.map (some mc), .map (some ma), ov, ptrV b] 133 (0, 0)), HL.mp mc encI (enumM s0.2), HL.mp ma encI (enumM s0.1), HL.own 3 1 ov s0.2.length (ints (nI s0.2))]) [HL.obj wb (.cells #[.map (some mc), .map (some ma), ov, ptrV b] 133 (0, 0)), HL.mp mc encI (enumM s0.2), HL.mp ma encI (enumM s0.1), HL.own 3 1 ov s0.2.length (ints (nI s0.2))] w) (hk : NbOk d s0) (ha : a0 < 2 * d.cross.length) : Gives Tryz.prog 79 #[ptrV wb, iv a0] w (SK [HL.obj wb (.cells #[.map (some mc), .map (some ma), ov, ptrV b] 133 (0, 0)), HL.mp mc encI (enumM s0.2), HL.mp ma encI (enumM s0.1), HL.own 3 1 ov s0.2.length (ints (nI s0.2))]) (fun _ : Value => True) (fun _ => .tuple #[]) (fun v => [HL.obj wb (.cells #[.map (some mc), .map (some ma), v, ptrV b] 133 (0, 0)), HL.mp mc encI (enumM (nbW d s0 a0).2), HL.mp ma encI (enumM (nbW d s0 a0).1), HL.own 3 1 v (nbW d s0 a0).2.length (ints (nI (nbW d s0 a0).2))]) := by
  have h200 := hS.1
  refine fn_of_run (S := (SK [HL.obj wb (.cells #[.map (some mc), .map (some ma), ov, ptrV b] 133 (0, 0)), HL.mp mc encI (enumM s0.2), HL.mp ma encI (enumM s0.1), HL.own 3 1 ov s0.2.length (ints (nI s0.2))])) (args := [ptrV wb, iv a0]) (n := 53) (L := [HL.obj wb (.cells #[.map (some mc), .map (some ma), ov, ptrV b] 133 (0, 0)), HL.mp mc encI (enumM s0.2), HL.mp ma encI (enumM s0.1), HL.own 3 1 ov s0.2.length (ints (nI s0.2))]) Tryz.func79 rfl Tryz.ntmps79 (Nat.le_of_ble_eq_true rfl) hs0 ?_
  change RunC _ _ _ [(0, _), (1, _)] _
  refine RunC.seq ?_
  refine RunC.region ?_
  refine RunL.still rfl rfl rfl (Still.move rfl rfl) ?_
  refine RunL.still rfl rfl rfl (Still.assign rfl rfl) ?_
  refine RunL.nil ?_
  refine Ends.then ?_
  refine RunC.block ?_
  refine RunC.loop2 (γ := Value × Nb × Nat) (keep := [(0, _)]) (hkeep := []) (fun (v, s, a) => NbOk d s ∧ a < 2 * d.cross.length ∧ nbW d s a = nbW d s0 a0) (fun (v, s, a) => 2 * d.cross.length + 1 - s.1.length) (fun (v, s, a) => [(4, iv a)]) (fun (v, s, a) => [HL.obj wb (.cells #[.map (some mc), .map (some ma), v, ptrV b] 133 (0, 0)), HL.mp mc encI (enumM s.2), HL.mp ma encI (enumM s.1), HL.own 3 1 v s.2.length (ints (nI s.2))]) (ov, s0, a0) ⟨hk, ha, rfl⟩ (Fr.Sub.cons rfl (Fr.Sub.nil _)) (Fr.Sub.cons rfl (Fr.Sub.nil _)) (HSub.pick 0 rfl (HSub.pick 0 rfl (HSub.pick 0 rfl (HSub.pick 0 rfl (HSub.nil _))))) ?_
  rintro ⟨v, s, a⟩ ⟨hk, ha, hW⟩
  have hk : NbOk d s := hk
  have ha : a < 2 * d.cross.length := ha
  have hW : nbW d s a = nbW d s0 a0 := hW
  have hal := hk.alen
  refine RunC.seq ?_
  refine RunC.block ?_
  refine RunC.seq ?_
  refine RunC.seq ?_
  refine RunC.region ?_
  refine RunL.still rfl rfl rfl (Still.move rfl rfl) ?_
  refine RunL.still rfl rfl rfl (Still.nilCheck rfl rfl) ?_
  refine RunL.still rfl rfl rfl (Still.fieldAddrL (off := 0) (off' := 0) rfl rfl Tryz.underlying133 rfl Tryz.sizeOf131 rfl) ?_
  refine RunL.still rfl rfl rfl (Still.fieldAddrL (off := 0) (off' := 1) rfl rfl Tryz.underlying131 rfl Tryz.sizeOf129 rfl) ?_
  refine RunL.still rfl rfl rfl (Still.load rfl rfl Tryz.isAgg129 (fun _ hs => cell_nth (hs.at (i := 0) rfl) rfl)) ?_
  refine RunL.still rfl rfl rfl (Still.move rfl rfl) ?_
  refine RunL.still rfl rfl rfl (Still.lookup2 (k := (a : Int)) rfl rfl rfl (i := 2) rfl Tryz.underlying129 mkI Tryz.zeroValue3 rfl (enumM_is a s.1)) ?_
  refine RunL.still rfl rfl rfl (Still.move rfl rfl) ?_
  refine RunL.still rfl rfl rfl (Still.extractN rfl rfl rfl) ?_
  refine RunL.still rfl rfl rfl (Still.extractN rfl rfl rfl) ?_
  refine RunL.still rfl rfl rfl (Still.assign rfl rfl) ?_
  refine RunL.still rfl rfl rfl (Still.assign rfl rfl) ?_
  refine RunL.nil ?_
  refine Ends.then ?_
  refine RunC.seq ?_
  refine RunC.region ?_
  refine RunL.still rfl rfl rfl (Still.move rfl rfl) ?_
  refine RunL.nil ?_
  refine Ends.then ?_
  refine RunC.cond rfl (fun h24 => ?_) (fun h24 => ?_)
  · have h24 : a ∈ s.1 := by simpa using h24
    refine RunC.ret ?_
    refine Ends.then_ret ?_
    refine Ends.block_ret ?_
    refine Ends.then_ret ?_
    refine Ends.then_ret ?_
    refine Ends.block_ret ?_
    rw [← hW, nbW_in h24]
    refine Ends.leave (.inl rfl) (fun _ _ ok => results0 Tryz.results79  ok) (fun w1 hs => ?_)
    exact Ret.intro v trivial rfl (HSub.pick 0 rfl (HSub.pick 0 rfl (HSub.pick 0 rfl (HSub.pick 0 rfl (HSub.nil _))))) hs
  · have h24 : a ∉ s.1 := by simpa using h24
    refine RunC.skip ?_
    refine Ends.then ?_
    refine RunC.seq ?_
    refine RunC.draw 12 (.still 0 (.still 1 (.still 2 (.still 3 (.still 4 (.still 5 (.still 6 (.still 7 (.still 8 (.still 9 (.still 10 (.still 11 .done)))))))))))) (by kernel_rfl) (by kernel_rfl) ?_
    refine RunG.still rfl rfl rfl rfl (Still.move rfl rfl) ?_
    refine RunG.still rfl rfl rfl rfl (Still.nilCheck rfl rfl) ?_
    refine RunG.still rfl rfl rfl rfl (Still.fieldAddrL (off := 0) (off' := 0) rfl rfl Tryz.underlying133 rfl Tryz.sizeOf131 rfl) ?_
    refine RunG.still rfl rfl rfl rfl (Still.fieldAddrL (off := 0) (off' := 1) rfl rfl Tryz.underlying131 rfl Tryz.sizeOf129 rfl) ?_
    refine RunG.still rfl rfl rfl rfl (Still.load rfl rfl Tryz.isAgg129 (fun _ hs => cell_nth (hs.at (i := 0) rfl) rfl)) ?_
    refine RunG.still rfl rfl rfl rfl (Still.move rfl rfl) ?_
    refine RunG.still rfl rfl rfl rfl (Still.move rfl rfl) ?_
    refine RunG.still rfl rfl rfl rfl (Still.nilCheck rfl rfl) ?_
    refine RunG.still rfl rfl rfl rfl (Still.fieldAddrL (off := 0) (off' := 0) rfl rfl Tryz.underlying133 rfl Tryz.sizeOf131 rfl) ?_
    refine RunG.still rfl rfl rfl rfl (Still.fieldAddrL (off := 0) (off' := 1) rfl rfl Tryz.underlying131 rfl Tryz.sizeOf129 rfl) ?_
    refine RunG.still rfl rfl rfl rfl (Still.load rfl rfl Tryz.isAgg129 (fun _ hs => cell_nth (hs.at (i := 0) rfl) rfl)) ?_
    refine RunG.still rfl rfl rfl rfl (Still.lenMap rfl rfl (i := 2) rfl Tryz.underlying129) ?_
    refine RunG.again (t := 36) (u := iv (s.1.length : Int)) rfl (congrArg (fun n : Nat => iv (n : Int)) (enumF_len 0 s.1)) ?_
    refine RunG.done ?_
    show RunL _ _ _ [_] _ _
    refine RunL.does0 rfl rfl (Does.mapUpdate (k := (a : Int)) rfl rfl rfl rfl (i := 2) rfl Tryz.underlying129 mkI) (fun _ _ => ?_)
    refine RunL.nil ?_
    refine Ends.then ?_
    refine RunC.draw 15 (.still 0 (.still 1 (.still 2 (.still 3 (.still 4 (.still 5 (.still 6 (.still 7 (.still 8 (.still 9 (.still 10 (.still 11 (.still 12 (.still 13 (.still 14 .done))))))))))))))) (by kernel_rfl) (by kernel_rfl) ?_
    refine RunG.still rfl rfl rfl rfl (Still.move rfl rfl) ?_
    refine RunG.still rfl rfl rfl rfl (Still.nilCheck rfl rfl) ?_
    refine RunG.still rfl rfl rfl rfl (Still.fieldAddrL (off := 0) (off' := 0) rfl rfl Tryz.underlying133 rfl Tryz.sizeOf131 rfl) ?_
    refine RunG.still rfl rfl rfl rfl (Still.move rfl rfl) ?_
    refine RunG.still rfl rfl rfl rfl (Still.nilCheck rfl rfl) ?_
    refine RunG.still rfl rfl rfl rfl (Still.fieldAddrL (off := 0) (off' := 3) rfl rfl Tryz.underlying133 rfl Tryz.sizeOf56 rfl) ?_
    refine RunG.still rfl rfl rfl rfl (Still.load rfl rfl Tryz.isAgg56 (fun _ hs => cell_nth (hs.at (i := 0) rfl) rfl)) ?_
    refine RunG.still rfl rfl rfl rfl (Still.nilCheck rfl rfl) ?_
    refine RunG.still rfl rfl rfl rfl (Still.fieldAddrA (off := 2) rfl rfl Tryz.underlying89 rfl Tryz.sizeOf87 rfl) ?_
    refine RunG.still rfl rfl rfl rfl (Still.load (v := av) rfl rfl Tryz.isAgg87 (fun _ hs => (hg.outer hO hf hs).c2)) ?_
    refine RunG.still rfl rfl rfl rfl (Still.move rfl rfl) ?_
    refine RunG.still rfl rfl rfl rfl (Still.indexV _ rfl rfl rfl Tryz.underlying87 Tryz.sizeOf112 (hg.sh) (rfl) (by omega)) ?_
    refine RunG.still rfl rfl rfl rfl (Still.fieldAddrA (off := 2) rfl rfl Tryz.underlying112 rfl Tryz.sizeOf110 rfl) ?_
    refine RunG.still rfl rfl rfl rfl (Still.fieldAddrA (off := 0) rfl rfl Tryz.underlying110 rfl Tryz.sizeOf3 rfl) ?_
    refine RunG.still rfl rfl rfl rfl (Still.load rfl rfl Tryz.isAgg3 (fun _ hs => cells_at3 ((hg.outer hO hf hs).arcs) (ends_inN hS ha))) ?_
    refine RunG.done ?_
    show RunL _ _ _ [_] _ _
    refine RunL.does rfl rfl rfl (Does.call (vs := #[_, _]) (K := [_, _, _]) (R := [_]) (S' := _) rfl rfl Tryz.call78 (HSub.pick 0 rfl (HSub.pick 0 rfl (HSub.pick 1 rfl (HSub.pick 0 rfl (HSub.nil _))))) (fun c h => h) (fun w hs => z_meet wb mc ma b v s.2 (endX d a) w hs.left.hand (by have := hk.clen; omega))) (fun v52 _ => ?_)
    refine RunL.nil ?_
    refine Ends.block ?_
    refine Ends.then ?_
    refine RunC.region ?_
    refine RunL.still rfl rfl rfl (Still.move rfl rfl) ?_
    refine RunL.still rfl rfl rfl (Still.nilCheck rfl rfl) ?_
    refine RunL.still rfl rfl rfl (Still.fieldAddrL (off := 0) (off' := 3) rfl rfl Tryz.underlying133 rfl Tryz.sizeOf56 rfl) ?_
    refine RunL.still rfl rfl rfl (Still.load rfl rfl Tryz.isAgg56 (fun _ hs => cell_nth (hs.at (i := 0) rfl) rfl)) ?_
    refine RunL.still rfl rfl rfl (Still.move rfl rfl) ?_
    refine RunL.grows rfl rfl rfl (Grows.call (vs := #[_, _]) rfl rfl Tryz.call94 (fun w hs => dg_next b base A cap d av a w (hg.outer hO hf hs) hS ha)) (fun _ _ => ?_)
    refine RunL.still rfl rfl rfl (Still.assign rfl rfl) ?_
    refine RunL.nil ?_
    refine Ends.again (v52, (s.1 ++ [a], nbAdd s.2 (endX d a)), nextN d a) ?_ ?_ (Fr.Sub.app ?_ ?_) ?_
    · exact ⟨hk.step hS ha h24, hS.next_lt a ha, (nbW_out hk h24).symm.trans hW⟩
    · show _ - (s.1 ++ [a]).length < _ - s.1.length; rw [List.length_append, List.length_singleton]; omega
    · exact Fr.Sub.cons rfl (Fr.Sub.nil _)
    · exact Fr.Sub.cons rfl (Fr.Sub.nil _)
    · exact HSub.pick 0 rfl (HSub.pick 0 rfl (HSub.pick 1 (congrArg (fun z => some (HL.mp ma encI z)) (enumM_put h24)) (HSub.pick 0 rfl (HSub.nil _))))

end Go.Proofs
/- The code of a piece from a crossing, as the program makes it. -/
namespace Go.Proofs
open Go Go.V
set_option maxRecDepth 20000
theorem z_code (b : Nat) (base : Option Addr) (A : Addr) (cap : Nat) (d : Dia) (av : Value) (c way : Nat) (w : World) (hg : DgAt w b base A cap d av) (hs0 : SoundP d) (hc : c < d.cross.length) : Gives Tryz.prog 47 #[ptrV b, iv c, iv way] w Nil (fun _ : Value => True) (fun v => v) (fun v => [HL.own 91 5 v (codeOf d c way).length ((codeOf d c way).flatMap encCr)]) := by
  have h200 := hs0.1
  have hsg := hs0.sgn hc
  refine fn_of_run (S := Nil) (args := [ptrV b, iv c, iv way]) (n := 116) (L := []) Tryz.func47 rfl Tryz.ntmps47 (Nat.le_of_ble_eq_true rfl) (Sym.nil _ _) ?_
  change RunC _ _ _ [(0, _), (1, _), (2, _)] _
  refine RunC.seq ?_
  refine RunC.region ?_
  refine RunL.still rfl rfl rfl (Still.assign rfl rfl) ?_
  refine RunL.nil ?_
  refine Ends.then ?_
  refine RunC.seq ?_
  refine RunC.region ?_
  refine RunL.grows rfl rfl rfl (Grows.makeMapK encI rfl) (fun b17 _ => ?_)
  refine RunL.grows rfl rfl rfl (Grows.makeMapK encI rfl) (fun b18 _ => ?_)
  refine RunL.still rfl rfl rfl (Still.build_1_1_1 (fun x0_0 x1_0 x2_0 => .agg #[x0_0, x1_0, x2_0]) rfl rfl rfl rfl (fun _ => by kernel_rfl)) ?_
  refine RunL.still rfl rfl rfl (Still.move rfl rfl) ?_
  refine RunL.still rfl rfl rfl (Still.build_3_1 (fun x0_0 x0_1 x0_2 x1_0 => .agg #[x0_0, x0_1, x0_2, x1_0]) rfl rfl rfl (fun _ => by kernel_rfl)) ?_
  refine RunL.grows rfl rfl rfl (Grows.box rfl rfl) (fun b22 _ => ?_)
  refine RunL.still rfl rfl rfl (Still.assign rfl rfl) ?_
  refine RunL.nil ?_
  refine Ends.then ?_
  refine RunC.seq ?_
  refine RunC.own_nil 3 1 ?_
  refine RunC.region ?_
  refine RunL.still rfl rfl rfl (Still.move rfl rfl) ?_
  refine RunL.still rfl rfl rfl (Still.nilCheck rfl rfl) ?_
  refine RunL.still rfl rfl rfl (Still.fieldAddrL (off := 0) (off' := 0) rfl rfl Tryz.underlying133 rfl Tryz.sizeOf131 rfl) ?_
  refine RunL.still rfl rfl rfl (Still.move rfl rfl) ?_
  refine RunL.does rfl rfl rfl (Does.call (vs := #[_, _]) (K := [_, _, _]) (R := [_]) (S' := _) rfl rfl Tryz.call78 (HSub.pick 1 rfl (HSub.pick 2 rfl (HSub.pick 0 rfl (HSub.pick 0 rfl (HSub.nil _))))) (fun c h => h) (fun w hs => z_meet b22 b17 b18 b (.slice none 0 0) [] c w hs.left.hand (Nat.zero_le _))) (fun v27 _ => ?_)
  refine RunL.nil ?_
  refine Ends.then ?_
  refine RunC.seq ?_
  refine RunC.region ?_
  refine RunL.still rfl rfl rfl (Still.move rfl rfl) ?_
  refine RunL.still rfl rfl rfl (Still.move rfl rfl) ?_
  refine RunL.still rfl rfl rfl (Still.nilCheck rfl rfl) ?_
  refine RunL.still rfl rfl rfl (Still.fieldAddrA (off := 0) rfl rfl Tryz.underlying89 rfl Tryz.sizeOf24 rfl) ?_
  refine RunL.still rfl rfl rfl (Still.fieldAddrA (off := 0) rfl rfl Tryz.underlying24 rfl Tryz.sizeOf22 rfl) ?_
  refine RunL.still rfl rfl rfl (Still.load (v := .slice base d.cross.length cap) rfl rfl Tryz.isAgg22 (fun _ hs => hs.base0 hg.c0)) ?_
  refine RunL.still rfl rfl rfl (Still.move rfl rfl) ?_
  refine RunL.still rfl rfl rfl (Still.indexSliceN rfl rfl rfl Tryz.underlying22 Tryz.sizeOf62 (hg.dia.base (by omega)) (by omega)) ?_
  refine RunL.still rfl rfl rfl (Still.loads rfl rfl Tryz.isAgg62 Tryz.sizeOf62 (vs := encCr (crAt d c)) rfl (fun _ hs => Cells.base0 (hg.dia.cross (crAt_get hc)) hs)) ?_
  refine RunL.still rfl rfl rfl (Still.move rfl rfl) ?_
  refine RunL.grows rfl rfl rfl (Grows.call (vs := #[_, _]) rfl rfl Tryz.call80 (fun w hs => z_leaving hs0 hc way w)) (fun _ _ => ?_)
  refine RunL.does rfl rfl rfl (Does.call (vs := #[_, _]) (K := [_, _, _, _]) (R := []) (S' := _) rfl rfl Tryz.call79 (HSub.pick 0 rfl (HSub.pick 0 rfl (HSub.pick 1 rfl (HSub.pick 0 rfl (HSub.nil _))))) (fun c h => h) (fun w hs => z_strand b base A cap d av hs0 b22 b17 b18 v27 ([], nbAdd [] c) (outN (crAt d c) way) w _ hg hs.old hs.left.fresh hs.left.hand (by rw [nbAdd_nil]; exact nb_one hc) (outN_lt hs0 hc way))) (fun v39 _ => ?_)
  refine RunL.nil ?_
  refine Ends.then ?_
  refine RunC.seq ?_
  refine RunC.seq ?_
  refine RunC.region ?_
  refine RunL.still rfl rfl rfl (Still.assign rfl rfl) ?_
  refine RunL.nil ?_
  refine Ends.then ?_
  refine RunC.block ?_
  refine RunC.loop2 (γ := Value × Nb × Nat) (keep := [(0, _), (7, _)]) (hkeep := []) (fun (v, s, i) => NbOk d s ∧ nbG d i s = (stdN d c way)) (fun (v, s, i) => d.cross.length - i) (fun (v, s, i) => [(8, iv i)]) (fun (v, s, i) => [HL.obj b22 (.cells #[.map (some b17), .map (some b18), v, ptrV b] 133 (0, 0)), HL.mp b17 encI (enumM s.2), HL.mp b18 encI (enumM s.1), HL.own 3 1 v s.2.length (ints (nI s.2))]) (v39, nbW d ([], nbAdd [] c) (outN (crAt d c) way), 0) ⟨by rw [nbAdd_nil]; exact nbW_ok hs0 (nb_one hc) (outN_lt hs0 hc way), by rw [nbAdd_nil]; rfl⟩ (Fr.Sub.cons rfl (Fr.Sub.nil _)) (Fr.Sub.cons rfl (Fr.Sub.cons rfl (Fr.Sub.nil _))) (HSub.pick 0 rfl (HSub.pick 0 rfl (HSub.pick 0 rfl (HSub.pick 0 rfl (HSub.nil _))))) ?_
  rintro ⟨v, s, i⟩ ⟨hk, hG⟩
  have hk : NbOk d s := hk
  have hG : nbG d i s = (stdN d c way) := hG
  have hcl := hk.clen
  refine RunC.seq ?_
  refine RunC.seq ?_
  refine RunC.region ?_
  refine RunL.still rfl rfl rfl (Still.move rfl rfl) ?_
  refine RunL.still rfl rfl rfl (Still.move rfl rfl) ?_
  refine RunL.still rfl rfl rfl (Still.nilCheck rfl rfl) ?_
  refine RunL.still rfl rfl rfl (Still.fieldAddrL (off := 0) (off' := 0) rfl rfl Tryz.underlying133 rfl Tryz.sizeOf131 rfl) ?_
  refine RunL.still rfl rfl rfl (Still.fieldAddrL (off := 0) (off' := 2) rfl rfl Tryz.underlying131 rfl Tryz.sizeOf36 rfl) ?_
  refine RunL.still rfl rfl rfl (Still.load rfl rfl Tryz.isAgg36 (fun _ hs => cell_nth (hs.at (i := 0) rfl) rfl)) ?_
  refine RunL.still rfl rfl rfl (Still.lenOwn rfl rfl Tryz.underlying36 (fun _ hs => hs.own (i := 3) rfl)) ?_
  refine RunL.still rfl rfl rfl (Still.lss rfl rfl rfl) ?_
  refine RunL.nil ?_
  refine Ends.then ?_
  refine RunC.cond rfl (fun h47 => ?_) (fun h47 => ?_)
  · have h47 := of_decide_eq_true h47
    obtain ⟨ci, hci2⟩ := get_of_lt (l := s.2) (i := i) (by omega)
    have hci := hk.cl ci (List.mem_of_getElem? hci2)
    refine RunC.skip ?_
    refine Ends.then ?_
    refine RunC.seq ?_
    refine RunC.block ?_
    refine RunC.seq ?_
    refine RunC.region ?_
    refine RunL.still rfl rfl rfl (Still.move rfl rfl) ?_
    refine RunL.nil ?_
    refine Ends.then ?_
    refine RunC.block ?_
    refine RunC.loop2 (γ := Value × Nat) (keep := [(0, _), (7, _), (8, _)]) (hkeep := []) (fun (u, k) => k ≤ 2) (fun (u, k) => 2 - k) (fun (u, k) => [(50, iv k)]) (fun (u, k) => [HL.obj b22 (.cells #[.map (some b17), .map (some b18), u, ptrV b] 133 (0, 0)), HL.mp b17 encI (enumM (nbTo d s ci k).2), HL.mp b18 encI (enumM (nbTo d s ci k).1), HL.own 3 1 u (nbTo d s ci k).2.length (ints (nI (nbTo d s ci k).2))]) (v, 0) (Nat.zero_le _) (Fr.Sub.cons rfl (Fr.Sub.nil _)) (Fr.Sub.cons rfl (Fr.Sub.cons rfl (Fr.Sub.cons rfl (Fr.Sub.nil _)))) (HSub.pick 0 rfl (HSub.pick 0 rfl (HSub.pick 0 rfl (HSub.pick 0 rfl (HSub.nil _))))) ?_
    rintro ⟨u, k⟩ hk2
    have hk2 : k ≤ 2 := hk2
    refine RunC.seq ?_
    refine RunC.region ?_
    refine RunL.still rfl rfl rfl (Still.lss rfl rfl rfl) ?_
    refine RunL.nil ?_
    refine Ends.then ?_
    refine RunC.seq ?_
    refine RunC.cond rfl (fun h51 => ?_) (fun h51 => ?_)
    · have h51 := of_decide_eq_true h51
      have h51n : k < 2 := by omega
      refine RunC.skip ?_
      refine Ends.then ?_
      refine RunC.seq ?_
      refine RunC.block ?_
      refine RunC.seq ?_
      refine RunC.region ?_
      refine RunL.still rfl rfl rfl (Still.move rfl rfl) ?_
      refine RunL.still rfl rfl rfl (Still.assign rfl rfl) ?_
      refine RunL.nil ?_
      refine Ends.then ?_
      refine RunC.draw 18 (.still 0 (.still 1 (.still 2 (.still 3 (.still 4 (.still 5 (.still 6 (.still 7 (.still 8 (.still 9 (.still 10 (.still 11 (.still 12 (.still 13 (.still 14 (.still 15 (.still 16 (.one 17 .done)))))))))))))))))) (by kernel_rfl) (by kernel_rfl) ?_
      refine RunG.still rfl rfl rfl rfl (Still.move rfl rfl) ?_
      refine RunG.still rfl rfl rfl rfl (Still.move rfl rfl) ?_
      refine RunG.still rfl rfl rfl rfl (Still.nilCheck rfl rfl) ?_
      refine RunG.still rfl rfl rfl rfl (Still.fieldAddrA (off := 0) rfl rfl Tryz.underlying89 rfl Tryz.sizeOf24 rfl) ?_
      refine RunG.still rfl rfl rfl rfl (Still.fieldAddrA (off := 0) rfl rfl Tryz.underlying24 rfl Tryz.sizeOf22 rfl) ?_
      refine RunG.still rfl rfl rfl rfl (Still.load (v := .slice base d.cross.length cap) rfl rfl Tryz.isAgg22 (fun _ hs => hs.base0 hg.c0)) ?_
      refine RunG.still rfl rfl rfl rfl (Still.move rfl rfl) ?_
      refine RunG.still rfl rfl rfl rfl (Still.nilCheck rfl rfl) ?_
      refine RunG.still rfl rfl rfl rfl (Still.fieldAddrL (off := 0) (off' := 0) rfl rfl Tryz.underlying133 rfl Tryz.sizeOf131 rfl) ?_
      refine RunG.still rfl rfl rfl rfl (Still.fieldAddrL (off := 0) (off' := 2) rfl rfl Tryz.underlying131 rfl Tryz.sizeOf36 rfl) ?_
      refine RunG.still rfl rfl rfl rfl (Still.load rfl rfl Tryz.isAgg36 (fun _ hs => cell_nth (hs.at (i := 0) rfl) rfl)) ?_
      refine RunG.still rfl rfl rfl rfl (Still.move rfl rfl) ?_
      refine RunG.still rfl rfl rfl rfl (Still.indexOwn rfl rfl rfl Tryz.underlying36 Tryz.sizeOf3 (fun _ hs => hs.own (i := 3) rfl) (by have := (List.getElem?_eq_some_iff.1 (nbTo_at hs0 hk hci hci2 k)).1; omega)) ?_
      refine RunG.still rfl rfl rfl rfl (Still.load rfl rfl Tryz.isAgg3 (fun w hs => own_at (hs.own (i := 3) rfl) (ints_get (nI_get (nbTo_at hs0 hk hci hci2 k))))) ?_
      refine RunG.still rfl rfl rfl rfl (Still.indexSliceN rfl rfl rfl Tryz.underlying22 Tryz.sizeOf62 (hg.dia.base (by omega)) (by omega)) ?_
      refine RunG.still rfl rfl rfl rfl (Still.loads rfl rfl Tryz.isAgg62 Tryz.sizeOf62 (vs := encCr (crAt d ci)) rfl (fun _ hs => Cells.base0 (hg.dia.cross (crAt_get hci)) hs)) ?_
      refine RunG.still rfl rfl rfl rfl (Still.move rfl rfl) ?_
      refine RunG.grows rfl rfl rfl rfl (Grows.call (vs := #[_, _]) rfl rfl Tryz.call80 (fun w hs => z_leaving hs0 hci k w)) (fun _ _ => ?_)
      refine RunG.done ?_
      show RunL _ _ _ [_] _ _
      refine RunL.does rfl rfl rfl (Does.call (vs := #[_, _]) (K := [_, _, _, _]) (R := []) (S' := _) rfl rfl Tryz.call79 (HSub.pick 0 rfl (HSub.pick 0 rfl (HSub.pick 0 rfl (HSub.pick 0 rfl (HSub.nil _))))) (fun c h => h) (fun w hs => z_strand b base A cap d av hs0 b22 b17 b18 u (nbTo d s ci k) (outN (crAt d ci) k) w _ hg hs.old hs.left.fresh hs.left.hand (nbTo_ok hs0 hk hci k) (outN_lt hs0 hci k))) (fun v71 _ => ?_)
      refine RunL.nil ?_
      refine Ends.block ?_
      refine Ends.then ?_
      refine RunC.region ?_
      refine RunL.still rfl rfl rfl (Still.add rfl rfl rfl (fits64 (by omega) (by omega))) ?_
      refine RunL.still rfl rfl rfl (Still.move rfl rfl) ?_
      refine RunL.nil ?_
      refine Ends.again (v71, k + 1) ?_ ?_ (Fr.Sub.app ?_ ?_) ?_
      · show k + 1 ≤ 2; omega
      · show 2 - (k + 1) < 2 - k; omega
      · exact Fr.Sub.cons rfl (Fr.Sub.nil _)
      · exact Fr.Sub.cons rfl (Fr.Sub.cons rfl (Fr.Sub.cons rfl (Fr.Sub.nil _)))
      · exact HSub.pick 0 rfl (HSub.pick 0 (by rw [nbTo_step h51n]; rfl) (HSub.pick 0 (by rw [nbTo_step h51n]; rfl) (HSub.pick 0 (by rw [nbTo_step h51n]; rfl) (HSub.nil _))))
    · have h51 := of_decide_eq_false h51
      obtain rfl : k = 2 := by omega
      refine RunC.exit ?_
      refine Ends.then_exit ?_
      refine Ends.then_exit ?_
      refine Ends.block_exit ?_
      refine Ends.block ?_
      refine Ends.then ?_
      refine RunC.region ?_
      refine RunL.still rfl rfl rfl (Still.move rfl rfl) ?_
      refine RunL.still rfl rfl rfl (Still.add rfl rfl rfl (fits64 (by omega) (by omega))) ?_
      refine RunL.still rfl rfl rfl (Still.assign rfl rfl) ?_
      refine RunL.nil ?_
      refine Ends.again (u, nbRow d s ci, i + 1) ?_ ?_ (Fr.Sub.app ?_ ?_) ?_
      · exact ⟨nbRow_ok hs0 hk hci, (nbG_next hk hci2).symm.trans hG⟩
      · show _ - (i + 1) < _ - i; omega
      · exact Fr.Sub.cons rfl (Fr.Sub.nil _)
      · exact Fr.Sub.cons rfl (Fr.Sub.cons rfl (Fr.Sub.nil _))
      · exact HSub.pick 0 rfl (HSub.pick 0 rfl (HSub.pick 0 rfl (HSub.pick 0 rfl (HSub.nil _))))
  · have h47 := of_decide_eq_false h47
    have hS : s = stdN d c way := by rw [← hG, nbG_end (by omega)]
    refine RunC.exit ?_
    refine Ends.then_exit ?_
    refine Ends.then_exit ?_
    refine Ends.block_exit ?_
    refine Ends.then ?_
    refine RunC.seq ?_
    refine RunC.region ?_
    refine RunL.still rfl rfl rfl (Still.assign rfl rfl) ?_
    refine RunL.own_nil 91 5 ?_
    refine RunL.nil ?_
    refine Ends.then ?_
    refine RunC.seq ?_
    refine RunC.seq ?_
    refine RunC.region ?_
    refine RunL.still rfl rfl rfl (Still.move rfl rfl) ?_
    refine RunL.still rfl rfl rfl (Still.nilCheck rfl rfl) ?_
    refine RunL.still rfl rfl rfl (Still.fieldAddrL (off := 0) (off' := 0) rfl rfl Tryz.underlying133 rfl Tryz.sizeOf131 rfl) ?_
    refine RunL.still rfl rfl rfl (Still.fieldAddrL (off := 0) (off' := 2) rfl rfl Tryz.underlying131 rfl Tryz.sizeOf36 rfl) ?_
    refine RunL.still rfl rfl rfl (Still.load rfl rfl Tryz.isAgg36 (fun _ hs => cell_nth (hs.at (i := 1) rfl) rfl)) ?_
    refine RunL.still rfl rfl rfl (Still.lenOwn rfl rfl Tryz.underlying36 (fun _ hs => hs.own (i := 4) rfl)) ?_
    refine RunL.still rfl rfl rfl (Still.move rfl rfl) ?_
    refine RunL.nil ?_
    refine Ends.then ?_
    refine RunC.block ?_
    refine RunC.loop2 (γ := Value × Nat) (keep := [(0, _), (7, _), (77, _), (78, _)]) (hkeep := [_, _, _, _]) (fun (x, j) => j ≤ s.2.length) (fun (x, j) => s.2.length - j) (fun (x, j) => [(10, x), (79, iv j)]) (fun (x, j) => [HL.own 91 5 x j ((rowsTo d s j).flatMap encCr)]) (.slice none 0 0, 0) (Nat.zero_le _) (Fr.Sub.cons rfl (Fr.Sub.cons rfl (Fr.Sub.nil _))) (Fr.Sub.cons rfl (Fr.Sub.cons rfl (Fr.Sub.cons rfl (Fr.Sub.cons rfl (Fr.Sub.nil _))))) (HSub.pick 0 rfl (HSub.pick 0 rfl (HSub.pick 0 rfl (HSub.pick 0 rfl (HSub.pick 0 rfl (HSub.nil _)))))) ?_
    rintro ⟨x, j⟩ hj
    have hj : j ≤ s.2.length := hj
    refine RunC.seq ?_
    refine RunC.region ?_
    refine RunL.still rfl rfl rfl (Still.lss rfl rfl rfl) ?_
    refine RunL.nil ?_
    refine Ends.then ?_
    refine RunC.seq ?_
    refine RunC.cond rfl (fun h80 => ?_) (fun h80 => ?_)
    · have h80 := of_decide_eq_true h80
      obtain ⟨kk, hkk2⟩ := get_of_lt (l := s.2) (i := j) (by omega)
      have hkk := hk.cl kk (List.mem_of_getElem? hkk2)
      refine RunC.skip ?_
      refine Ends.then ?_
      refine RunC.seq ?_
      refine RunC.block ?_
      refine RunC.seq ?_
      refine RunC.region ?_
      refine RunL.still rfl rfl rfl (Still.indexOwn rfl rfl rfl Tryz.underlying36 Tryz.sizeOf3 (fun _ hs => hs.own (i := 4) rfl) (by omega)) ?_
      refine RunL.still rfl rfl rfl (Still.load rfl rfl Tryz.isAgg3 (fun w hs => own_at (hs.own (i := 4) rfl) (ints_get (nI_get hkk2)))) ?_
      refine RunL.still rfl rfl rfl (Still.assign rfl rfl) ?_
      refine RunL.nil ?_
      refine Ends.then ?_
      refine RunC.seq ?_
      refine RunC.region ?_
      refine RunL.still rfl rfl rfl (Still.move rfl rfl) ?_
      refine RunL.still rfl rfl rfl (Still.nilCheck rfl rfl) ?_
      refine RunL.still rfl rfl rfl (Still.fieldAddrA (off := 0) rfl rfl Tryz.underlying89 rfl Tryz.sizeOf24 rfl) ?_
      refine RunL.still rfl rfl rfl (Still.fieldAddrA (off := 0) rfl rfl Tryz.underlying24 rfl Tryz.sizeOf22 rfl) ?_
      refine RunL.still rfl rfl rfl (Still.load (v := .slice base d.cross.length cap) rfl rfl Tryz.isAgg22 (fun _ hs => hs.base0 hg.c0)) ?_
      refine RunL.still rfl rfl rfl (Still.move rfl rfl) ?_
      refine RunL.still rfl rfl rfl (Still.indexSliceN rfl rfl rfl Tryz.underlying22 Tryz.sizeOf62 (hg.dia.base (by omega)) (by omega)) ?_
      refine RunL.still rfl rfl rfl (Still.loads rfl rfl Tryz.isAgg62 Tryz.sizeOf62 (vs := encCr (crAt d kk)) rfl (fun _ hs => Cells.base0 (hg.dia.cross (crAt_get hkk)) hs)) ?_
      refine RunL.grows rfl rfl rfl (Grows.alloc rfl Tryz.zeroValue62) (fun b13 _ => ?_)
      refine RunL.does0 rfl rfl (Does.store rfl rfl rfl (i := 0) rfl Tryz.sizeOf62 rfl (rfl) rfl) (fun _ _ => ?_)
      refine RunL.conv (fun _ hs => hs.re 0 rfl (show _ = HL.obj b13 (.cells #[iv (crAt d kk).a0, iv (crAt d kk).a1, iv (crAt d kk).a2, iv (crAt d kk).a3, iv (crAt d kk).s] 62 (0, 0)) from rfl)) ?_
      refine RunL.nil ?_
      refine Ends.then ?_
      refine RunC.seq ?_
      refine RunC.region ?_
      refine RunL.grows rfl rfl rfl (Grows.alloc rfl Tryz.zeroValue91) (fun b14 _ => ?_)
      refine RunL.nil ?_
      refine Ends.then ?_
      refine RunC.seq ?_
      refine RunC.seq ?_
      refine RunC.region ?_
      refine RunL.still rfl rfl rfl (Still.fieldAddrL (off := 0) (off' := 0) rfl rfl Tryz.underlying62 rfl Tryz.sizeOf60 rfl) ?_
      refine RunL.still rfl rfl rfl (Still.loads rfl rfl Tryz.isAgg60 Tryz.sizeOf60 (vs := [_, _, _, _]) rfl (fun _ hs => cells_nth (hs.at (i := 1) rfl) ⟨rfl, ⟨rfl, ⟨rfl, ⟨rfl, trivial⟩⟩⟩⟩)) ?_
      refine RunL.still rfl rfl rfl (Still.move rfl rfl) ?_
      refine RunL.nil ?_
      refine Ends.then ?_
      refine RunC.block ?_
      refine RunC.loop2 (γ := Nat) (keep := [(0, _), (7, _), (10, _), (13, _), (14, _), (77, _), (78, _), (79, _), (92, _)]) (hkeep := [_, _, _, _, _, _]) (fun p => p ≤ 4) (fun p => 4 - p) (fun p => [(93, iv p)]) (fun p => [HL.obj b14 (.cells (rowTo s.1 (crAt d kk) p) 91 (0, 0))]) 0 (Nat.zero_le _) (Fr.Sub.cons rfl (Fr.Sub.nil _)) (Fr.Sub.cons rfl (Fr.Sub.cons rfl (Fr.Sub.cons rfl (Fr.Sub.cons rfl (Fr.Sub.cons rfl (Fr.Sub.cons rfl (Fr.Sub.cons rfl (Fr.Sub.cons rfl (Fr.Sub.cons rfl (Fr.Sub.nil _)))))))))) (HSub.pick 0 rfl (HSub.pick 0 rfl (HSub.pick 0 rfl (HSub.pick 0 rfl (HSub.pick 0 rfl (HSub.pick 0 rfl (HSub.pick 0 rfl (HSub.nil _)))))))) ?_
      rintro p hp
      refine RunC.seq ?_
      refine RunC.region ?_
      refine RunL.still rfl rfl rfl (Still.lss rfl rfl rfl) ?_
      refine RunL.nil ?_
      refine Ends.then ?_
      refine RunC.seq ?_
      refine RunC.cond rfl (fun h94 => ?_) (fun h94 => ?_)
      · have h94 := of_decide_eq_true h94
        have hp4 : p < 4 := by omega
        have hpa := hs0.arc hkk hp4
        refine RunC.skip ?_
        refine Ends.then ?_
        refine RunC.seq ?_
        refine RunC.block ?_
        refine RunC.seq ?_
        refine RunC.region ?_
        refine RunL.still rfl rfl rfl (Still.move rfl rfl) ?_
        refine RunL.still rfl rfl rfl (Still.index rfl rfl rfl Tryz.underlying60 Tryz.sizeOf3 Tryz.isAgg3 ⟨by omega, by omega⟩ (row_at _ hp4)) ?_
        refine RunL.again (t := 96) (u := iv ((((crAt d kk).arc p).toNat : Nat) : Int)) rfl (congrArg iv (Int.toNat_of_nonneg hpa.1).symm) ?_
        refine RunL.still rfl rfl rfl (Still.assign rfl rfl) ?_
        refine RunL.still rfl rfl rfl (Still.assign rfl rfl) ?_
        refine RunL.nil ?_
        refine Ends.then ?_
        refine RunC.region ?_
        refine RunL.still rfl rfl rfl (Still.move rfl rfl) ?_
        refine RunL.still rfl rfl rfl (Still.move rfl rfl) ?_
        refine RunL.still rfl rfl rfl (Still.nilCheck rfl rfl) ?_
        refine RunL.still rfl rfl rfl (Still.fieldAddrL (off := 0) (off' := 0) rfl rfl Tryz.underlying133 rfl Tryz.sizeOf131 rfl) ?_
        refine RunL.still rfl rfl rfl (Still.fieldAddrL (off := 0) (off' := 1) rfl rfl Tryz.underlying131 rfl Tryz.sizeOf129 rfl) ?_
        refine RunL.still rfl rfl rfl (Still.load rfl rfl Tryz.isAgg129 (fun _ hs => cell_nth (hs.at (i := 3) rfl) rfl)) ?_
        refine RunL.still rfl rfl rfl (Still.move rfl rfl) ?_
        refine RunL.still rfl rfl rfl (Still.lookup1 (k := ((((crAt d kk).arc p).toNat : Nat) : Int)) rfl rfl rfl (i := 5) rfl Tryz.underlying129 mkI Tryz.zeroValue3 (enumM_pos _ _)) ?_
        refine RunL.still rfl rfl rfl (Still.indexArrNL rfl rfl rfl Tryz.underlying91 Tryz.sizeOf3 (by omega)) ?_
        refine RunL.does0 rfl rfl (Does.store1 rfl rfl rfl (i := 0) rfl Tryz.sizeOf3 rfl (Nat.ble_eq_true_of_le (show 0 + p * 1 + 1 ≤ 5 by omega))) (fun _ _ => ?_)
        refine RunL.conv (fun _ hs => hs.re 0 rfl (show _ = HL.obj b14 (.cells (rowTo s.1 (crAt d kk) (p + 1)) 91 (0, 0)) from congrArg (fun z => HL.obj b14 (.cells z 91 (0, 0))) (rowTo_set s.1 (crAt d kk) hp4))) ?_
        refine RunL.nil ?_
        refine Ends.block ?_
        refine Ends.then ?_
        refine RunC.region ?_
        refine RunL.still rfl rfl rfl (Still.add rfl rfl rfl (fits64 (by omega) (by omega))) ?_
        refine RunL.still rfl rfl rfl (Still.move rfl rfl) ?_
        refine RunL.nil ?_
        refine Ends.again (p + 1) ?_ ?_ (Fr.Sub.app ?_ ?_) ?_
        · show _; omega
        · show _ < _; omega
        · exact Fr.Sub.cons rfl (Fr.Sub.nil _)
        · exact Fr.Sub.cons rfl (Fr.Sub.cons rfl (Fr.Sub.cons rfl (Fr.Sub.cons rfl (Fr.Sub.cons rfl (Fr.Sub.cons rfl (Fr.Sub.cons rfl (Fr.Sub.cons rfl (Fr.Sub.cons rfl (Fr.Sub.nil _)))))))))
        · exact HSub.pick 0 rfl (HSub.pick 0 rfl (HSub.pick 0 rfl (HSub.pick 0 rfl (HSub.pick 0 rfl (HSub.pick 0 rfl (HSub.pick 0 rfl (HSub.nil _)))))))
      · have h94 := of_decide_eq_false h94
        obtain rfl : p = 4 := by omega
        refine RunC.exit ?_
        refine Ends.then_exit ?_
        refine Ends.then_exit ?_
        refine Ends.block_exit ?_
        refine Ends.then ?_
        refine RunC.seq ?_
        refine RunC.region ?_
        refine RunL.still rfl rfl rfl (Still.fieldAddrL (off := 0) (off' := 4) rfl rfl Tryz.underlying62 rfl Tryz.sizeOf3 rfl) ?_
        refine RunL.still rfl rfl rfl (Still.load rfl rfl Tryz.isAgg3 (fun _ hs => cell_nth (hs.at (i := 1) rfl) rfl)) ?_
        refine RunL.still rfl rfl rfl (Still.indexArrEL 4 rfl rfl rfl Tryz.underlying91 Tryz.sizeOf3 (rfl) (by omega)) ?_
        refine RunL.does0 rfl rfl (Does.store1 rfl rfl rfl (i := 0) rfl Tryz.sizeOf3 rfl (Nat.ble_eq_true_of_le (show 0 + 4 * 1 + 1 ≤ 5 by omega))) (fun _ _ => ?_)
        refine RunL.conv (fun _ hs => hs.re 0 rfl (show _ = HL.obj b14 (.cells #[iv (rowOf s.1 (crAt d kk)).a0, iv (rowOf s.1 (crAt d kk)).a1, iv (rowOf s.1 (crAt d kk)).a2, iv (rowOf s.1 (crAt d kk)).a3, iv (rowOf s.1 (crAt d kk)).s] 91 (0, 0)) from rfl)) ?_
        refine RunL.nil ?_
        refine Ends.then ?_
        refine RunC.region ?_
        refine RunL.still rfl rfl rfl (Still.move rfl rfl) ?_
        refine RunL.still rfl rfl rfl (Still.loads rfl rfl Tryz.isAgg91 Tryz.sizeOf91 (vs := [_, _, _, _, _]) rfl (fun _ hs => cells_nth (hs.at (i := 0) rfl) ⟨rfl, ⟨rfl, ⟨rfl, ⟨rfl, ⟨rfl, trivial⟩⟩⟩⟩⟩)) ?_
        refine RunL.grows rfl rfl rfl (Grows.slice1 rfl rfl Tryz.underlying83 Tryz.sizeOf91 rfl Tryz.zeroValue91 (by decide)) (fun b112 _ => ?_)
        refine RunL.does rfl rfl rfl (Does.appendTo (n' := (j + 1)) (xs' := ((rowsTo d s (j + 1)).flatMap encCr)) (news := [_, _, _, _, _]) rfl rfl rfl rfl (i := 3) rfl Tryz.underlying83 (by kernel_rfl : (_ : Option _) = some (some (.agg #[.int .i64 0, .int .i64 0, .int .i64 0, .int .i64 0, .int .i64 0]), 5, 40)) rfl rfl (fun _ hs => cells_nth (hs.at (i := 0) rfl) ⟨rfl, ⟨rfl, ⟨rfl, ⟨rfl, ⟨rfl, trivial⟩⟩⟩⟩⟩) rfl rfl (by omega) (by omega) (rfl) ((by rw [rowsTo_step hkk2, List.flatMap_append]; rfl))) (fun v113 hv113 => ?_)
        refine RunL.still rfl rfl rfl (Still.assign rfl rfl) ?_
        refine RunL.nil ?_
        refine Ends.block ?_
        refine Ends.then ?_
        refine RunC.region ?_
        refine RunL.still rfl rfl rfl (Still.add rfl rfl rfl (fits64 (by omega) (by omega))) ?_
        refine RunL.still rfl rfl rfl (Still.move rfl rfl) ?_
        refine RunL.nil ?_
        refine Ends.again (v113, j + 1) ?_ ?_ (Fr.Sub.app ?_ ?_) ?_
        · show j + 1 ≤ _; omega
        · show _ - (j + 1) < _ - j; omega
        · exact Fr.Sub.cons rfl (Fr.Sub.cons rfl (Fr.Sub.nil _))
        · exact Fr.Sub.cons rfl (Fr.Sub.cons rfl (Fr.Sub.cons rfl (Fr.Sub.cons rfl (Fr.Sub.nil _))))
        · exact HSub.pick 3 rfl (HSub.pick 3 rfl (HSub.pick 3 rfl (HSub.pick 3 rfl (HSub.pick 3 rfl (HSub.nil _)))))
    · have h80 := of_decide_eq_false h80
      obtain rfl : j = s.2.length := by omega
      refine RunC.exit ?_
      refine Ends.then_exit ?_
      refine Ends.then_exit ?_
      refine Ends.block_exit ?_
      refine Ends.then ?_
      refine RunC.seq ?_
      refine RunC.region ?_
      refine RunL.still rfl rfl rfl (Still.move rfl rfl) ?_
      refine RunL.still rfl rfl rfl (Still.assign rfl rfl) ?_
      refine RunL.nil ?_
      refine Ends.then ?_
      refine RunC.ret ?_
      rw [codeOf_len, show codeOf d c way = rowsTo d s s.2.length by rw [rowsTo_all, hS]; rfl, ← hS]
      refine Ends.leave (.inl rfl) (fun _ _ ok => results1 Tryz.results47 (Holds.tmp rfl) ok) (fun w1 hs => ?_)
      exact Ret.intro _ trivial rfl (HSub.pick 0 rfl (HSub.nil _)) hs

end Go.Proofs
/- Orders, as the program finds them. -/
namespace Go.Proofs
open Go Go.V
set_option maxRecDepth 20000
theorem z_Values (lb : Option Addr) (_LA : Addr) (lc : Nat) (xs : List Int) (w : World) : Gives Tryz.prog 87 #[lisV lb lc xs] w Nil (fun _ : Nat => True) (fun b => .func (.func 122) #[] #[ptrV b]) (fun b => [HL.obj b (.cells #[lisV lb lc xs] 36 (0, 0))]) := by
  refine fn_of_run (S := Nil) (args := [lisV lb lc xs]) (n := 4) (L := []) Tryz.func87 rfl Tryz.ntmps87 (Nat.le_of_ble_eq_true rfl) (Sym.nil _ _) ?_
  change RunC _ _ _ [(0, _)] _
  refine RunC.seq ?_
  refine RunC.region ?_
  refine RunL.grows rfl rfl rfl (Grows.box rfl rfl) (fun b1 _ => ?_)
  refine RunL.still rfl rfl rfl (Still.assign rfl rfl) ?_
  refine RunL.nil ?_
  refine Ends.then ?_
  refine RunC.seq ?_
  refine RunC.region ?_
  refine RunL.still rfl rfl rfl (Still.makeFunc (vs := #[_]) rfl rfl) ?_
  refine RunL.still rfl rfl rfl (Still.assign rfl rfl) ?_
  refine RunL.nil ?_
  refine Ends.then ?_
  refine RunC.ret ?_
  refine Ends.leave (.inl rfl) (fun _ _ ok => results1 Tryz.results87 (Holds.tmp rfl) ok) (fun w1 hs => ?_)
  exact Ret.intro b1 trivial rfl (HSub.pick 0 rfl (HSub.nil _)) hs

theorem z_values1 (lb : Option Addr) (LA : Addr) (lc : Nat) (xs : List Int) (l vb : Nat) {σ : Type} (s0 : σ) (jmp : σ → Option Code) (J : Nat → σ → HL) (w : World) (h0 : jmp s0 = none) (hJ : (J 0 s0).holds w) (hlt : ∀ b, (J 0 s0).supp b → b < w.heap.size) (hx : ∀ w', Old (J 0 s0).supp w w' → IntsAt w' lb LA lc xs)
  (hb : ∀ w', Old (J 0 s0).supp w w' → w'.cell? ⟨vb, 0, none⟩ = some (lisV lb lc xs))
  (hy : ∀ j s, j < xs.length → jmp s = none → ∀ w', Old (J 0 s0).supp w w' → (J j s).holds w' → (∀ b, (J j s).supp b → b < w'.heap.size ∧ (w.heap.size ≤ b ∨ (J 0 s0).supp b)) → YieldsJ Tryz.prog l #[iv (xs.getD j 0)] w' (J j s).supp jmp (J (j + 1))) :
  Gives Tryz.prog 122 #[.func (.yield l) #[] #[], ptrV vb] w (J 0 s0).supp (fun r : Nat × σ => jmp r.2 = none → r.1 = xs.length) (fun _ => .tuple #[]) (fun r => [J r.1 r.2]) := by
  have hxw := hx w (Old.refl _ w)
  have hle := hxw.le
  have hlen := hxw.len
  refine fn_of_run (S := (J 0 s0).supp) (args := [.func (.yield l) #[] #[], ptrV vb]) (n := 16) (L := [J 0 s0]) Tryz.func122 rfl Tryz.ntmps122 (Nat.le_of_ble_eq_true rfl) (Sym.own1 hJ hlt) ?_
  change RunC _ _ _ [(0, _), (1, _)] _
  refine RunC.seq ?_
  refine RunC.region ?_
  refine RunL.still rfl rfl rfl (Still.load (v := lisV lb lc xs) rfl rfl Tryz.isAgg36 (fun _ hs => hb _ hs.old)) ?_
  refine RunL.still rfl rfl rfl (Still.lenV rfl rfl Tryz.underlying36 (hxw.shape)) ?_
  refine RunL.still rfl rfl rfl (Still.move rfl rfl) ?_
  refine RunL.nil ?_
  refine Ends.then ?_
  refine RunC.block ?_
  refine RunC.loop2 (γ := Nat × σ) (keep := [(0, _), (5, _), (6, _)]) (hkeep := []) (fun (j, s) => j ≤ xs.length ∧ jmp s = none) (fun (j, s) => xs.length - j) (fun (j, s) => [(7, iv j)]) (fun (j, s) => [J j s]) (0, s0) ⟨Nat.zero_le _, h0⟩ (Fr.Sub.cons rfl (Fr.Sub.nil _)) (Fr.Sub.cons rfl (Fr.Sub.cons rfl (Fr.Sub.cons rfl (Fr.Sub.nil _)))) (HSub.pick 0 rfl (HSub.nil _)) ?_
  rintro ⟨j, s⟩ ⟨hj, hjs⟩
  have hj : j ≤ xs.length := hj
  have hjs : jmp s = none := hjs
  refine RunC.seq ?_
  refine RunC.region ?_
  refine RunL.still rfl rfl rfl (Still.lss rfl rfl rfl) ?_
  refine RunL.nil ?_
  refine Ends.then ?_
  refine RunC.seq ?_
  refine RunC.cond rfl (fun h8 => ?_) (fun h8 => ?_)
  · have h8 := of_decide_eq_true h8
    have hjN : j < xs.length := by omega
    obtain ⟨y, hxj⟩ := get_of_lt hjN
    have hgd : xs.getD j 0 = y := by rw [List.getD_eq_getElem?_getD, hxj]; rfl
    refine RunC.skip ?_
    refine Ends.then ?_
    refine RunC.seq ?_
    refine RunC.block ?_
    refine RunC.seq ?_
    refine RunC.region ?_
    refine RunL.still rfl rfl rfl (Still.indexV _ rfl rfl rfl Tryz.underlying36 Tryz.sizeOf3 (hxw.shape) (rfl) (by omega)) ?_
    refine RunL.still rfl rfl rfl (Still.load rfl rfl Tryz.isAgg3 (fun _ hs => cells_at ((hx _ hs.old).cells _) (ints_get hxj))) ?_
    refine RunL.still rfl rfl rfl (Still.assign rfl rfl) ?_
    refine RunL.nil ?_
    refine Ends.then ?_
    refine RunC.seq ?_
    refine RunC.region ?_
    refine RunL.still rfl rfl rfl (Still.move rfl rfl) ?_
    refine RunL.still rfl rfl rfl (Still.move rfl rfl) ?_
    refine RunL.does rfl rfl rfl (Does.yieldJ (l := l) (jmp := jmp) (H := J (j + 1)) rfl rfl rfl rfl (i := 0) rfl (fun w hs => by have h := hy j s hjN hjs w hs.old (hs.at (i := 0) rfl) (hs.supp _ (List.mem_of_getElem? (i := 0) rfl)); rw [hgd] at h; exact h)) (fun s13 _ => ?_)
    refine RunL.still rfl rfl rfl (Still.not rfl rfl) ?_
    refine RunL.nil ?_
    refine Ends.then ?_
    refine RunC.cond rfl (fun h14 => ?_) (fun h14 => ?_)
    · skip
      refine RunC.ret ?_
      refine Ends.block_ret ?_
      refine Ends.then_ret ?_
      refine Ends.then_ret ?_
      refine Ends.block_ret ?_
      refine Ends.leave (.inl rfl) (fun _ _ ok => results0 Tryz.results122  ok) (fun w1 hs => ?_)
      exact Ret.intro (j + 1, s13) (fun h => by have h : jmp s13 = none := h; simp [h] at h14) rfl (HSub.pick 0 rfl (HSub.nil _)) hs
    · skip
      refine RunC.skip ?_
      refine Ends.block ?_
      refine Ends.then ?_
      refine RunC.region ?_
      refine RunL.still rfl rfl rfl (Still.add rfl rfl rfl (fits64 (by omega) (by omega))) ?_
      refine RunL.still rfl rfl rfl (Still.move rfl rfl) ?_
      refine RunL.nil ?_
      refine Ends.again (j + 1, s13) ?_ ?_ (Fr.Sub.app ?_ ?_) ?_
      · exact ⟨by show j + 1 ≤ _; omega, by simpa using h14⟩
      · show _ - (j + 1) < _ - j; omega
      · exact Fr.Sub.cons rfl (Fr.Sub.nil _)
      · exact Fr.Sub.cons rfl (Fr.Sub.cons rfl (Fr.Sub.cons rfl (Fr.Sub.nil _)))
      · exact HSub.pick 0 rfl (HSub.nil _)
  · have h8 := of_decide_eq_false h8
    obtain rfl : j = xs.length := by omega
    refine RunC.exit ?_
    refine Ends.then_exit ?_
    refine Ends.then_exit ?_
    refine Ends.block_exit ?_
    refine Ends.leave (.inr rfl) (fun _ _ ok => results0 Tryz.results122  ok) (fun w2 hs => ?_)
    exact Ret.intro (xs.length, s) (fun _ => rfl) rfl (HSub.pick 0 rfl (HSub.nil _)) hs

theorem ints_take_snoc {xs : List Int} {j : Nat} {y : Int} (h : xs[j]? = some y) : ints (xs.take j) ++ [iv y] = ints (xs.take (j + 1)) := by
  rw [List.take_add_one, h, Option.toList_some, ints, ints, List.map_append, List.map_singleton]; rfl

theorem z_AppendSeq (lb : Option Addr) (LA : Addr) (lc : Nat) (xs : List Int) (vb : Nat) (w : World) (hx : IntsAt w lb LA lc xs) (h8 : xs.length * 8 ≤ 140737488355328) (hbx : w.cell? ⟨vb, 0, none⟩ = some (lisV lb lc xs)) : Gives Tryz.prog 152 #[.slice none 0 0, .func (.func 122) #[] #[ptrV vb]] w Nil (fun _ : Value => True) (fun v => v) (fun v => [HL.own 3 1 v xs.length (ints xs)]) := by
  refine fn_of_runM (S := Nil) (args := [.slice none 0 0, .func (.func 122) #[] #[ptrV vb]]) (n := 13) (L := []) Tryz.func152 rfl Tryz.ntmps152 (Nat.le_of_ble_eq_true rfl) (Sym.nil _ _) ?_
  change RunC _ _ _ [(0, _), (1, _)] _
  refine RunC.conv (fun _ hs => hs.marks_nil) ?_
  refine RunC.seq ?_
  refine RunC.region ?_
  refine RunL.grows rfl rfl rfl (Grows.box rfl rfl) (fun b2 _ => ?_)
  refine RunL.still rfl rfl rfl (Still.assign rfl rfl) ?_
  refine RunL.nil ?_
  refine Ends.then ?_
  refine RunC.seq ?_
  refine RunC.seq ?_
  refine RunC.own_nil 3 1 ?_
  refine RunC.region ?_
  refine RunL.still rfl rfl rfl (Still.move rfl rfl) ?_
  refine RunL.nil ?_
  refine Ends.then ?_
  refine RunC.block ?_
  refine RunC.conv (fun _ hs => Sym.all (l := [_, _]) (hs.sub (HSub.pick 0 rfl (HSub.pick 0 rfl (HSub.pick 0 rfl (HSub.nil _)))))) ?_
  refine RunC.rangeFuncJ (V := .tuple #[]) (gf := 122) (N := xs.length) (lb := #[ptrV vb]) (.slice none 0 0) (fun _ : Value => none) (fun j => [iv (xs.getD j 0)]) (fun j s => HL.all [HL.own 3 1 s (xs.take j).length (ints (xs.take j)), HL.obj b2 (.cells #[s] 36 (0, 0))]) rfl rfl (fun _ => rfl) rfl Tryz.call122 rfl (HSub.pick 0 rfl (HSub.refl _)) ?_ ?_ ?_
  · intro l rc j s w S hO hS hj hjs ha hb
    have hjN : j < xs.length := by assumption
    obtain ⟨y, hxj⟩ := get_of_lt hjN
    have hgd : xs.getD j 0 = y := by rw [List.getD_eq_getElem?_getD, hxj]; rfl
    rw [hgd]
    refine RunC.region ?_
    refine RunL.still rfl rfl rfl (Still.assign rfl rfl) ?_
    refine RunL.nil ?_
    refine Ends.roundBeginJ (Fr.Sub.refl _) (HSub.pick 0 rfl (HSub.refl _)) ?_
    refine RunC.conv (fun _ hs => Sym.unall (hs.sub (HSub.pick 1 rfl (HSub.pick 0 rfl (HSub.nil _))))) ?_
    refine RunC.block ?_
    refine RunC.region ?_
    refine RunL.still rfl rfl rfl (Still.load rfl rfl Tryz.isAgg36 (fun _ hs => cell_nth (hs.at (i := 1) rfl) rfl)) ?_
    refine RunL.still rfl rfl rfl (Still.move rfl rfl) ?_
    refine RunL.grows rfl rfl rfl (Grows.slice1 rfl rfl Tryz.underlying36 Tryz.sizeOf3 rfl Tryz.zeroValue3 (by decide)) (fun b10 _ => ?_)
    refine RunL.does rfl rfl rfl (Does.appendTo (n' := (xs.take (j + 1)).length) (xs' := (ints (xs.take (j + 1)))) (news := [_]) rfl rfl rfl rfl (i := 1) rfl Tryz.underlying36 (by kernel_rfl : (_ : Option _) = some (some (.int .i64 0), 1, 8)) rfl rfl (fun _ hs => cells_nth (hs.at (i := 0) rfl) ⟨rfl, trivial⟩) rfl rfl ((by rw [List.length_take]; omega)) ((by rw [List.length_take]; omega)) ((by simp [List.length_take]; omega)) (ints_take_snoc hxj)) (fun v11 hv11 => ?_)
    refine RunL.know (fun _ hs => own_oneCell (hs.own (i := 1) rfl)) (fun h1v => ?_)
    refine RunL.does0 rfl rfl (Does.store1 rfl rfl rfl (i := 2) rfl Tryz.sizeOf36 (h1v) (rfl)) (fun _ _ => ?_)
    refine RunL.conv (fun _ hs => hs.re 2 rfl (show _ = HL.obj b2 (.cells #[v11] 36 (0, 0)) from rfl)) ?_
    refine RunL.nil ?_
    refine Ends.block ?_
    refine Ends.conv (fun _ hs => (Sym.all (l := [HL.own 3 1 v11 (xs.take (j + 1)).length (ints (xs.take (j + 1))), HL.obj b2 (.cells #[v11] 36 (0, 0))]) (hs.sub (HSub.pick 1 rfl (HSub.pick 1 rfl (HSub.pick 1 rfl (HSub.nil _)))))).sub (HSub.pick 1 rfl (HSub.pick 0 rfl (HSub.nil _)))) (Ends.roundEndJ v11 rfl (HSub.refl _))
  · intro l J w hs hy
    exact z_values1 lb LA lc xs l vb _ _ J w rfl (hs.holds _ (List.mem_cons_self ..)) hs.ltK (fun w1 ho => hx.old (hs.oldK ho)) (fun w1 ho => (hs.oldK ho).cell hbx (fun x => x)) (fun j s hj hn w1 ho hh hl => hy j s hj hn w1 ho hh hl)
  · intro D j s hjN
    skip
    · change Go.V.Ends _ Exit.normal _ _ _
      refine Ends.conv (fun _ hs => Sym.marks_push (hs.sub (HSub.pick 1 rfl (HSub.pick 1 rfl (HSub.pick 0 rfl (HSub.nil _)))))) ?_
      refine Ends.conv (fun _ hs => Sym.unall (hs.sub (HSub.pick 1 rfl (HSub.pick 0 rfl (HSub.nil _))))) ?_
      have hgN := hjN rfl
      subst hgN
      refine Ends.conv (fun _ hs => hs.re 0 rfl (show _ = HL.own 3 1 s xs.length (ints xs) by rw [List.take_length])) ?_
      refine Ends.block ?_
      refine Ends.then ?_
      refine RunC.seq ?_
      refine RunC.region ?_
      refine RunL.still rfl rfl rfl (Still.load rfl rfl Tryz.isAgg36 (fun _ hs => cell_nth (hs.at (i := 1) rfl) rfl)) ?_
      refine RunL.still rfl rfl rfl (Still.assign rfl rfl) ?_
      refine RunL.nil ?_
      refine Ends.then ?_
      refine RunC.ret ?_
      refine Ends.leaveM (Ds := [D]) (H := [_]) (.inl rfl) (HSub.pick 2 rfl (HSub.pick 0 rfl (HSub.nil _))) (fun _ _ ok => ok.results1 Tryz.results152 (Holds.tmp rfl)) (fun w1 hs => ?_)
      exact Ret.intro s trivial rfl (HSub.pick 0 rfl (HSub.nil _)) hs

theorem z_Collect (lb : Option Addr) (LA : Addr) (lc : Nat) (xs : List Int) (vb : Nat) (w : World) (hx : IntsAt w lb LA lc xs) (h8 : xs.length * 8 ≤ 140737488355328) (hbx : w.cell? ⟨vb, 0, none⟩ = some (lisV lb lc xs)) : Gives Tryz.prog 120 #[.func (.func 122) #[] #[ptrV vb]] w Nil (fun _ : Value => True) (fun v => v) (fun v => [HL.own 3 1 v xs.length (ints xs)]) := by
  refine fn_of_run (S := Nil) (args := [.func (.func 122) #[] #[ptrV vb]]) (n := 5) (L := []) Tryz.func120 rfl Tryz.ntmps120 (Nat.le_of_ble_eq_true rfl) (Sym.nil _ _) ?_
  change RunC _ _ _ [(0, _)] _
  refine RunC.seq ?_
  refine RunC.region ?_
  refine RunL.still rfl rfl rfl (Still.assign rfl rfl) ?_
  refine RunL.nil ?_
  refine Ends.then ?_
  refine RunC.seq ?_
  refine RunC.region ?_
  refine RunL.still rfl rfl rfl (Still.move rfl rfl) ?_
  refine RunL.grows rfl rfl rfl (Grows.call (vs := #[_, _]) rfl rfl Tryz.call152 (fun w hs => z_AppendSeq lb LA lc xs vb w (hx.sym hs) h8 (hs.base0 hbx))) (fun v4 _ => ?_)
  refine RunL.still rfl rfl rfl (Still.assign rfl rfl) ?_
  refine RunL.nil ?_
  refine Ends.then ?_
  refine RunC.ret ?_
  refine Ends.leave (.inl rfl) (fun _ _ ok => results1 Tryz.results120 (Holds.tmp rfl) ok) (fun w1 hs => ?_)
  exact Ret.intro v4 trivial rfl (HSub.pick 0 rfl (HSub.nil _)) hs

theorem z_Sorted (lb : Option Addr) (LA : Addr) (lc : Nat) (xs : List Int) (vb : Nat) (w : World) (hx : IntsAt w lb LA lc xs) (h8 : xs.length * 8 ≤ 140737488355328) (hbx : w.cell? ⟨vb, 0, none⟩ = some (lisV lb lc xs)) : Gives Tryz.prog 86 #[.func (.func 122) #[] #[ptrV vb]] w Nil (fun _ : Value => True) (fun v => v) (fun v => [HL.own 3 1 v xs.length (ints (sortI xs))]) := by
  refine fn_of_run (S := Nil) (args := [.func (.func 122) #[] #[ptrV vb]]) (n := 9) (L := []) Tryz.func86 rfl Tryz.ntmps86 (Nat.le_of_ble_eq_true rfl) (Sym.nil _ _) ?_
  change RunC _ _ _ [(0, _)] _
  refine RunC.seq ?_
  refine RunC.region ?_
  refine RunL.still rfl rfl rfl (Still.assign rfl rfl) ?_
  refine RunL.nil ?_
  refine Ends.then ?_
  refine RunC.seq ?_
  refine RunC.region ?_
  refine RunL.still rfl rfl rfl (Still.move rfl rfl) ?_
  refine RunL.grows rfl rfl rfl (Grows.call (vs := #[_]) rfl rfl Tryz.call120 (fun w hs => z_Collect lb LA lc xs vb w (hx.sym hs) h8 (hs.base0 hbx))) (fun v5 _ => ?_)
  refine RunL.still rfl rfl rfl (Still.assign rfl rfl) ?_
  refine RunL.nil ?_
  refine Ends.then ?_
  refine RunC.seq ?_
  refine RunC.region ?_
  refine RunL.still rfl rfl rfl (Still.move rfl rfl) ?_
  refine RunL.does rfl rfl rfl (Does.call (vs := #[_]) (K := [_]) (R := []) (S' := _) rfl rfl Tryz.call121 (HSub.pick 0 rfl (HSub.nil _)) (fun c h => h) (fun w hs => z_SortI v5 xs (by omega) w hs.left.hand)) (fun _ _ => ?_)
  refine RunL.nil ?_
  refine Ends.then ?_
  refine RunC.seq ?_
  refine RunC.region ?_
  refine RunL.still rfl rfl rfl (Still.move rfl rfl) ?_
  refine RunL.still rfl rfl rfl (Still.assign rfl rfl) ?_
  refine RunL.nil ?_
  refine Ends.then ?_
  refine RunC.ret ?_
  refine Ends.leave (.inl rfl) (fun _ _ ok => results1 Tryz.results86 (Holds.tmp rfl) ok) (fun w1 hs => ?_)
  exact Ret.intro v5 trivial rfl (HSub.pick 0 rfl (HSub.nil _)) hs

theorem z_isOrder (lb : Option Addr) (LA : Addr) (lc : Nat) (xs : List Int) (n : Int) (w : World) (hx : IntsAt w lb LA lc xs) (h8 : xs.length * 8 ≤ 140737488355328) : Gives Tryz.prog 50 #[lisV lb lc xs, iv n] w Nil (fun _ : Unit => True) (fun _ => .bool (ordB xs n)) (fun _ => []) := by
  have hle := hx.le
  have hlen := hx.len
  have hsl := sortI_len xs
  refine fn_of_run (S := Nil) (args := [lisV lb lc xs, iv n]) (n := 26) (L := []) Tryz.func50 rfl Tryz.ntmps50 (Nat.le_of_ble_eq_true rfl) (Sym.nil _ _) ?_
  change RunC _ _ _ [(0, _), (1, _)] _
  refine RunC.seq ?_
  refine RunC.region ?_
  refine RunL.still rfl rfl rfl (Still.assign rfl rfl) ?_
  refine RunL.nil ?_
  refine Ends.then ?_
  refine RunC.seq ?_
  refine RunC.region ?_
  refine RunL.still rfl rfl rfl (Still.move rfl rfl) ?_
  refine RunL.grows rfl rfl rfl (Grows.call (vs := #[_]) rfl rfl Tryz.call87 (fun w hs => z_Values lb LA lc xs w)) (fun vb _ => ?_)
  refine RunL.grows rfl rfl rfl (Grows.call (vs := #[_]) rfl rfl Tryz.call86 (fun w hs => z_Sorted lb LA lc xs vb w (hx.sym hs) h8 (cell_nth (hs.at (i := 0) rfl) rfl))) (fun v10 _ => ?_)
  refine RunL.still rfl rfl rfl (Still.assign rfl rfl) ?_
  refine RunL.nil ?_
  refine Ends.then ?_
  refine RunC.seq ?_
  refine RunC.seq ?_
  refine RunC.region ?_
  refine RunL.still rfl rfl rfl (Still.move rfl rfl) ?_
  refine RunL.still rfl rfl rfl (Still.lenOwn rfl rfl Tryz.underlying36 (fun _ hs => hs.own (i := 0) rfl)) ?_
  refine RunL.still rfl rfl rfl (Still.move rfl rfl) ?_
  refine RunL.nil ?_
  refine Ends.then ?_
  refine RunC.block ?_
  refine RunC.loop2 (γ := Nat) (keep := [(0, _), (1, _), (11, _), (12, _)]) (hkeep := [_, _]) (fun i => i ≤ xs.length ∧ ∀ j : Nat, j < i → (sortI xs)[j]? = some (j : Int)) (fun i => xs.length - i) (fun i => [(13, iv i)]) (fun i => []) 0 ⟨Nat.zero_le _, fun j hj => absurd hj (Nat.not_lt_zero _)⟩ (Fr.Sub.cons rfl (Fr.Sub.nil _)) (Fr.Sub.cons rfl (Fr.Sub.cons rfl (Fr.Sub.cons rfl (Fr.Sub.cons rfl (Fr.Sub.nil _))))) (HSub.pick 0 rfl (HSub.pick 0 rfl (HSub.nil _))) ?_
  rintro i ⟨hi, hJ⟩
  have hi : i ≤ xs.length := hi
  refine RunC.seq ?_
  refine RunC.region ?_
  refine RunL.still rfl rfl rfl (Still.lss rfl rfl rfl) ?_
  refine RunL.nil ?_
  refine Ends.then ?_
  refine RunC.seq ?_
  refine RunC.cond rfl (fun h14 => ?_) (fun h14 => ?_)
  · have h14 := of_decide_eq_true h14
    obtain ⟨y, hy⟩ := get_of_lt (l := sortI xs) (i := i) (by omega)
    refine RunC.skip ?_
    refine Ends.then ?_
    refine RunC.seq ?_
    refine RunC.block ?_
    refine RunC.seq ?_
    refine RunC.region ?_
    refine RunL.still rfl rfl rfl (Still.move rfl rfl) ?_
    refine RunL.still rfl rfl rfl (Still.indexOwn rfl rfl rfl Tryz.underlying36 Tryz.sizeOf3 (fun _ hs => hs.own (i := 0) rfl) (by omega)) ?_
    refine RunL.still rfl rfl rfl (Still.load rfl rfl Tryz.isAgg3 (fun w hs => own_at (hs.own (i := 0) rfl) (ints_get hy))) ?_
    refine RunL.still rfl rfl rfl (Still.assign rfl rfl) ?_
    refine RunL.still rfl rfl rfl (Still.assign rfl rfl) ?_
    refine RunL.nil ?_
    refine Ends.then ?_
    refine RunC.seq ?_
    refine RunC.region ?_
    refine RunL.still rfl rfl rfl (Still.move rfl rfl) ?_
    refine RunL.still rfl rfl rfl (Still.move rfl rfl) ?_
    refine RunL.still rfl rfl rfl (Still.neq rfl rfl rfl) ?_
    refine RunL.nil ?_
    refine Ends.then ?_
    refine RunC.cond rfl (fun h20 => ?_) (fun h20 => ?_)
    · have h20 := of_decide_eq_true h20
      refine RunC.seq ?_
      refine RunC.region ?_
      refine RunL.still rfl rfl rfl (Still.assign rfl rfl) ?_
      refine RunL.nil ?_
      refine Ends.then ?_
      refine RunC.ret ?_
      refine Ends.block_ret ?_
      refine Ends.then_ret ?_
      refine Ends.then_ret ?_
      refine Ends.block_ret ?_
      refine Ends.then_ret ?_
      refine Ends.leave (.inl rfl) (fun _ _ ok => results1 Tryz.results50 (Holds.tmp rfl) ok) (fun w1 hs => ?_)
      exact Ret.intro () trivial (congrArg Value.bool (by rw [ordB, decide_eq_false (fun e => h20 (by rw [e, upTo_at (by omega)] at hy; exact Option.some.inj hy)), Bool.false_and])) (HSub.nil _) hs
    · have h20 : (i : Int) = y := Decidable.not_not.1 (of_decide_eq_false h20)
      refine RunC.skip ?_
      refine Ends.block ?_
      refine Ends.then ?_
      refine RunC.region ?_
      refine RunL.still rfl rfl rfl (Still.add rfl rfl rfl (fits64 (by omega) (by omega))) ?_
      refine RunL.still rfl rfl rfl (Still.move rfl rfl) ?_
      refine RunL.nil ?_
      refine Ends.again (i + 1) ?_ ?_ (Fr.Sub.app ?_ ?_) ?_
      · exact ⟨by show i + 1 ≤ _; omega, fun j hj => by by_cases e : j = i; subst e; rw [hy, h20]; exact hJ j (by omega)⟩
      · show _ - (i + 1) < _ - i; omega
      · exact Fr.Sub.cons rfl (Fr.Sub.nil _)
      · exact Fr.Sub.cons rfl (Fr.Sub.cons rfl (Fr.Sub.cons rfl (Fr.Sub.cons rfl (Fr.Sub.nil _))))
      · exact HSub.pick 0 rfl (HSub.pick 0 rfl (HSub.nil _))
  · have h14 := of_decide_eq_false h14
    obtain rfl : i = xs.length := by omega
    refine RunC.exit ?_
    refine Ends.then_exit ?_
    refine Ends.then_exit ?_
    refine Ends.block_exit ?_
    refine Ends.then ?_
    refine RunC.seq ?_
    refine RunC.region ?_
    refine RunL.still rfl rfl rfl (Still.move rfl rfl) ?_
    refine RunL.still rfl rfl rfl (Still.lenSlice rfl rfl Tryz.underlying36) ?_
    refine RunL.still rfl rfl rfl (Still.move rfl rfl) ?_
    refine RunL.still rfl rfl rfl (Still.eql rfl rfl rfl) ?_
    refine RunL.still rfl rfl rfl (Still.assign rfl rfl) ?_
    refine RunL.nil ?_
    refine Ends.then ?_
    refine RunC.ret ?_
    refine Ends.leave (.inl rfl) (fun _ _ ok => results1 Tryz.results50 (Holds.tmp rfl) ok) (fun w2 hs => ?_)
    exact Ret.intro () trivial (congrArg Value.bool (by rw [ordB, decide_eq_true (p := sortI xs = upTo xs.length) (List.ext_getElem? fun j => by by_cases e : j < xs.length; rw [hJ j e, upTo_at e]; rw [List.getElem?_eq_none (by omega), List.getElem?_eq_none (by rw [upTo_len]; omega)]), Bool.true_and])) (HSub.nil _) hs

end Go.Proofs
/- diag.Renumber. -/
namespace Go.Proofs
open Go Go.V
set_option maxRecDepth 20000
theorem dg_Renumber_bad (base : Option Addr) (A : Addr) (cap : Nat) (d : Dia) (ob : Option Addr) (OA : Addr) (oc : Nat) (xs : List Int) (yb : Option Addr) (YA : Addr) (yc : Nat) (ys : List Int) (w : World) (hd : DiaAt w base A d) (_hx : IntsAt w ob OA oc xs) (_hy : IntsAt w yb YA yc ys) (_h8x : xs.length * 8 ≤ 140737488355328) (_h8y : ys.length * 8 ≤ 140737488355328) (hc : checkI d ≠ 0) : Gives Tryz.prog 16 #[diaV base cap d, lisV ob oc xs, lisV yb yc ys] w Nil (fun _ : Unit => True) (fun _ => .tuple #[.agg #[.slice none 0 0, iv 0], iv (checkI d)]) (fun _ => []) := by
  refine fn_of_run (S := Nil) (args := [diaV base cap d, lisV ob oc xs, lisV yb yc ys]) (n := 87) (L := []) Tryz.func16 rfl Tryz.ntmps16 (Nat.le_of_ble_eq_true rfl) (Sym.nil _ _) ?_
  change RunC _ _ _ [(0, _), (1, _), (2, _)] _
  refine RunC.seq ?_
  refine RunC.region ?_
  refine RunL.grows rfl rfl rfl (Grows.box rfl rfl) (fun b3 _ => ?_)
  refine RunL.grows rfl rfl rfl (Grows.alloc rfl Tryz.zeroValue24) (fun b6 _ => ?_)
  refine RunL.still rfl rfl rfl (Still.assign rfl rfl) ?_
  refine RunL.nil ?_
  refine Ends.then ?_
  refine RunC.seq ?_
  refine RunC.region ?_
  refine RunL.still rfl rfl rfl (Still.loads rfl rfl Tryz.isAgg24 Tryz.sizeOf24 (vs := [_, _]) rfl (fun _ hs => cells_nth (hs.at (i := 1) rfl) ⟨rfl, ⟨rfl, trivial⟩⟩)) ?_
  refine RunL.grows rfl rfl rfl (Grows.call (vs := #[_]) rfl rfl Tryz.call31 (fun w hs => dg_enter_bad base A cap d w (hd.sym hs) hc)) (fun _ _ => ?_)
  refine RunL.still rfl rfl rfl (Still.move rfl rfl) ?_
  refine RunL.still rfl rfl rfl (Still.extractN rfl rfl rfl) ?_
  refine RunL.still rfl rfl rfl (Still.extractN rfl rfl rfl) ?_
  refine RunL.still rfl rfl rfl (Still.assign rfl rfl) ?_
  refine RunL.still rfl rfl rfl (Still.assign rfl rfl) ?_
  refine RunL.nil ?_
  refine Ends.then ?_
  refine RunC.seq ?_
  refine RunC.seq ?_
  refine RunC.region ?_
  refine RunL.still rfl rfl rfl (Still.move rfl rfl) ?_
  refine RunL.still rfl rfl rfl (Still.neq rfl rfl rfl) ?_
  refine RunL.nil ?_
  refine Ends.then ?_
  refine RunC.cond rfl (fun h22 => ?_) (fun h22 => ?_)
  · have h22 := of_decide_eq_true h22
    refine RunC.seq ?_
    refine RunC.region ?_
    refine RunL.still rfl rfl rfl (Still.build_0 (.agg #[.slice none 0 0, .int .i64 0]) rfl (fun _ => by kernel_rfl)) ?_
    refine RunL.still rfl rfl rfl (Still.move rfl rfl) ?_
    refine RunL.does0 rfl rfl (Does.store rfl rfl rfl (i := 0) rfl Tryz.sizeOf24 rfl (rfl) rfl) (fun _ _ => ?_)
    refine RunL.conv (fun _ hs => hs.re 0 rfl (show _ = HL.obj b6 (.cells #[.slice none 0 0, iv 0] 24 (0, 0)) from rfl)) ?_
    refine RunL.still rfl rfl rfl (Still.assign rfl rfl) ?_
    refine RunL.nil ?_
    refine Ends.then ?_
    refine RunC.ret ?_
    refine Ends.then_ret ?_
    refine Ends.leave (.inl rfl) (fun _ _ ok => results2 Tryz.results16 (Holds.cell rfl (fun _ hs => load_cells (vs := [_, _]) Tryz.isAgg24 Tryz.sizeOf24 rfl (cells_nth (hs.at (i := 0) rfl) ⟨rfl, ⟨rfl, trivial⟩⟩))) (Holds.tmp rfl) ok) (fun w1 hs => ?_)
    exact Ret.intro () trivial rfl (HSub.nil _) hs
  · have h22 := of_decide_eq_false h22
    exact absurd hc h22

theorem dg_Renumber_arg1 (base : Option Addr) (A : Addr) (cap : Nat) (d : Dia) (ob : Option Addr) (OA : Addr) (oc : Nat) (xs : List Int) (yb : Option Addr) (YA : Addr) (yc : Nat) (ys : List Int) (w : World) (hd : DiaAt w base A d) (hx : IntsAt w ob OA oc xs) (_hy : IntsAt w yb YA yc ys) (h8x : xs.length * 8 ≤ 140737488355328) (_h8y : ys.length * 8 ≤ 140737488355328) (hc : checkI d = 0) (h1 : ordB xs d.cross.length = false) : Gives Tryz.prog 16 #[diaV base cap d, lisV ob oc xs, lisV yb yc ys] w Nil (fun _ : Unit => True) (fun _ => .tuple #[.agg #[.slice none 0 0, iv 0], iv 1]) (fun _ => []) := by
  obtain ⟨hS, hPl⟩ := checkI_ok.1 hc
  have h200 := hS.1
  have hlo := hS.2.1
  have hlo2 := hS.2.2.1
  refine fn_of_run (S := Nil) (args := [diaV base cap d, lisV ob oc xs, lisV yb yc ys]) (n := 87) (L := []) Tryz.func16 rfl Tryz.ntmps16 (Nat.le_of_ble_eq_true rfl) (Sym.nil _ _) ?_
  change RunC _ _ _ [(0, _), (1, _), (2, _)] _
  refine RunC.seq ?_
  refine RunC.region ?_
  refine RunL.grows rfl rfl rfl (Grows.box rfl rfl) (fun b3 _ => ?_)
  refine RunL.grows rfl rfl rfl (Grows.alloc rfl Tryz.zeroValue24) (fun b6 _ => ?_)
  refine RunL.still rfl rfl rfl (Still.assign rfl rfl) ?_
  refine RunL.nil ?_
  refine Ends.then ?_
  refine RunC.seq ?_
  refine RunC.region ?_
  refine RunL.still rfl rfl rfl (Still.loads rfl rfl Tryz.isAgg24 Tryz.sizeOf24 (vs := [_, _]) rfl (fun _ hs => cells_nth (hs.at (i := 1) rfl) ⟨rfl, ⟨rfl, trivial⟩⟩)) ?_
  refine RunL.grows rfl rfl rfl (Grows.call (vs := #[_]) rfl rfl Tryz.call31 (fun w hs => dg_enter_ok base A cap d w (hd.sym hs) hc)) (fun ⟨eb, av⟩ hav => ?_)
  have hav : Shape av (2 * d.cross.length) := hav
  refine RunL.still rfl rfl rfl (Still.move rfl rfl) ?_
  refine RunL.still rfl rfl rfl (Still.extractN rfl rfl rfl) ?_
  refine RunL.still rfl rfl rfl (Still.extractN rfl rfl rfl) ?_
  refine RunL.still rfl rfl rfl (Still.assign rfl rfl) ?_
  refine RunL.still rfl rfl rfl (Still.assign rfl rfl) ?_
  refine RunL.nil ?_
  refine Ends.then ?_
  refine RunC.seq ?_
  refine RunC.seq ?_
  refine RunC.region ?_
  refine RunL.still rfl rfl rfl (Still.move rfl rfl) ?_
  refine RunL.still rfl rfl rfl (Still.neq rfl rfl rfl) ?_
  refine RunL.nil ?_
  refine Ends.then ?_
  refine RunC.cond rfl (fun h22 => ?_) (fun h22 => ?_)
  · have h22 := of_decide_eq_true h22
    exact absurd rfl h22
  · have h22 := of_decide_eq_false h22
    refine RunC.skip ?_
    refine Ends.then ?_
    refine RunC.seq ?_
    refine RunC.seq ?_
    refine RunC.region ?_
    refine RunL.still rfl rfl rfl (Still.move rfl rfl) ?_
    refine RunL.still rfl rfl rfl (Still.move rfl rfl) ?_
    refine RunL.still rfl rfl rfl (Still.nilCheck rfl rfl) ?_
    refine RunL.still rfl rfl rfl (Still.fieldAddrA (off := 0) rfl rfl Tryz.underlying89 rfl Tryz.sizeOf24 rfl) ?_
    refine RunL.still rfl rfl rfl (Still.fieldAddrA (off := 0) rfl rfl Tryz.underlying24 rfl Tryz.sizeOf22 rfl) ?_
    refine RunL.still rfl rfl rfl (Still.load (v := .slice base d.cross.length cap) rfl rfl Tryz.isAgg22 (fun _ hs => ((DgAt.of_own (hd.sym hs) (hs.at (i := 0) rfl) (hs.own (i := 1) rfl))).c0)) ?_
    refine RunL.still rfl rfl rfl (Still.lenSlice rfl rfl Tryz.underlying22) ?_
    refine RunL.grows rfl rfl rfl (Grows.call (vs := #[_, _]) rfl rfl Tryz.call50 (fun w hs => z_isOrder ob OA oc xs d.cross.length w (hx.sym hs) h8x)) (fun _ _ => ?_)
    refine RunL.again (t := 32) (u := .bool false) rfl (congrArg Value.bool h1) ?_
    refine RunL.still rfl rfl rfl (Still.not rfl rfl) ?_
    refine RunL.still rfl rfl rfl (Still.move rfl rfl) ?_
    refine RunL.off rfl rfl rfl ?_
    refine RunL.off rfl rfl rfl ?_
    refine RunL.off rfl rfl rfl ?_
    refine RunL.off rfl rfl rfl ?_
    refine RunL.off rfl rfl rfl ?_
    refine RunL.off rfl rfl rfl ?_
    refine RunL.off rfl rfl rfl ?_
    refine RunL.off rfl rfl rfl ?_
    refine RunL.still rfl rfl rfl (Still.pickT rfl rfl rfl) ?_
    refine RunL.nil ?_
    refine Ends.then ?_
    refine RunC.cond_true rfl ?_
    refine RunC.seq ?_
    refine RunC.region ?_
    refine RunL.still rfl rfl rfl (Still.build_0 (.agg #[.slice none 0 0, .int .i64 0]) rfl (fun _ => by kernel_rfl)) ?_
    refine RunL.does0 rfl rfl (Does.store rfl rfl rfl (i := 2) rfl Tryz.sizeOf24 rfl (rfl) rfl) (fun _ _ => ?_)
    refine RunL.conv (fun _ hs => hs.re 2 rfl (show _ = HL.obj b6 (.cells #[.slice none 0 0, iv 0] 24 (0, 0)) from rfl)) ?_
    refine RunL.still rfl rfl rfl (Still.assign rfl rfl) ?_
    refine RunL.nil ?_
    refine Ends.then ?_
    refine RunC.ret ?_
    refine Ends.then_ret ?_
    refine Ends.leave (.inl rfl) (fun _ _ ok => results2 Tryz.results16 (Holds.cell rfl (fun _ hs => load_cells (vs := [_, _]) Tryz.isAgg24 Tryz.sizeOf24 rfl (cells_nth (hs.at (i := 2) rfl) ⟨rfl, ⟨rfl, trivial⟩⟩))) (Holds.tmp rfl) ok) (fun w1 hs => ?_)
    exact Ret.intro () trivial rfl (HSub.nil _) hs

theorem dg_Renumber_arg2 (base : Option Addr) (A : Addr) (cap : Nat) (d : Dia) (ob : Option Addr) (OA : Addr) (oc : Nat) (xs : List Int) (yb : Option Addr) (YA : Addr) (yc : Nat) (ys : List Int) (w : World) (hd : DiaAt w base A d) (hx : IntsAt w ob OA oc xs) (hy : IntsAt w yb YA yc ys) (h8x : xs.length * 8 ≤ 140737488355328) (h8y : ys.length * 8 ≤ 140737488355328) (hc : checkI d = 0) (h1 : ordB xs d.cross.length = true) (h2 : ordB ys (2 * d.cross.length : Nat) = false) : Gives Tryz.prog 16 #[diaV base cap d, lisV ob oc xs, lisV yb yc ys] w Nil (fun _ : Unit => True) (fun _ => .tuple #[.agg #[.slice none 0 0, iv 0], iv 1]) (fun _ => []) := by
  obtain ⟨hS, hPl⟩ := checkI_ok.1 hc
  have h200 := hS.1
  have hlo := hS.2.1
  have hlo2 := hS.2.2.1
  refine fn_of_run (S := Nil) (args := [diaV base cap d, lisV ob oc xs, lisV yb yc ys]) (n := 87) (L := []) Tryz.func16 rfl Tryz.ntmps16 (Nat.le_of_ble_eq_true rfl) (Sym.nil _ _) ?_
  change RunC _ _ _ [(0, _), (1, _), (2, _)] _
  refine RunC.seq ?_
  refine RunC.region ?_
  refine RunL.grows rfl rfl rfl (Grows.box rfl rfl) (fun b3 _ => ?_)
  refine RunL.grows rfl rfl rfl (Grows.alloc rfl Tryz.zeroValue24) (fun b6 _ => ?_)
  refine RunL.still rfl rfl rfl (Still.assign rfl rfl) ?_
  refine RunL.nil ?_
  refine Ends.then ?_
  refine RunC.seq ?_
  refine RunC.region ?_
  refine RunL.still rfl rfl rfl (Still.loads rfl rfl Tryz.isAgg24 Tryz.sizeOf24 (vs := [_, _]) rfl (fun _ hs => cells_nth (hs.at (i := 1) rfl) ⟨rfl, ⟨rfl, trivial⟩⟩)) ?_
  refine RunL.grows rfl rfl rfl (Grows.call (vs := #[_]) rfl rfl Tryz.call31 (fun w hs => dg_enter_ok base A cap d w (hd.sym hs) hc)) (fun ⟨eb, av⟩ hav => ?_)
  have hav : Shape av (2 * d.cross.length) := hav
  refine RunL.still rfl rfl rfl (Still.move rfl rfl) ?_
  refine RunL.still rfl rfl rfl (Still.extractN rfl rfl rfl) ?_
  refine RunL.still rfl rfl rfl (Still.extractN rfl rfl rfl) ?_
  refine RunL.still rfl rfl rfl (Still.assign rfl rfl) ?_
  refine RunL.still rfl rfl rfl (Still.assign rfl rfl) ?_
  refine RunL.nil ?_
  refine Ends.then ?_
  refine RunC.seq ?_
  refine RunC.seq ?_
  refine RunC.region ?_
  refine RunL.still rfl rfl rfl (Still.move rfl rfl) ?_
  refine RunL.still rfl rfl rfl (Still.neq rfl rfl rfl) ?_
  refine RunL.nil ?_
  refine Ends.then ?_
  refine RunC.cond rfl (fun h22 => ?_) (fun h22 => ?_)
  · have h22 := of_decide_eq_true h22
    exact absurd rfl h22
  · have h22 := of_decide_eq_false h22
    refine RunC.skip ?_
    refine Ends.then ?_
    refine RunC.seq ?_
    refine RunC.seq ?_
    refine RunC.region ?_
    refine RunL.still rfl rfl rfl (Still.move rfl rfl) ?_
    refine RunL.still rfl rfl rfl (Still.move rfl rfl) ?_
    refine RunL.still rfl rfl rfl (Still.nilCheck rfl rfl) ?_
    refine RunL.still rfl rfl rfl (Still.fieldAddrA (off := 0) rfl rfl Tryz.underlying89 rfl Tryz.sizeOf24 rfl) ?_
    refine RunL.still rfl rfl rfl (Still.fieldAddrA (off := 0) rfl rfl Tryz.underlying24 rfl Tryz.sizeOf22 rfl) ?_
    refine RunL.still rfl rfl rfl (Still.load (v := .slice base d.cross.length cap) rfl rfl Tryz.isAgg22 (fun _ hs => ((DgAt.of_own (hd.sym hs) (hs.at (i := 0) rfl) (hs.own (i := 1) rfl))).c0)) ?_
    refine RunL.still rfl rfl rfl (Still.lenSlice rfl rfl Tryz.underlying22) ?_
    refine RunL.grows rfl rfl rfl (Grows.call (vs := #[_, _]) rfl rfl Tryz.call50 (fun w hs => z_isOrder ob OA oc xs d.cross.length w (hx.sym hs) h8x)) (fun _ _ => ?_)
    refine RunL.again (t := 32) (u := .bool true) rfl (congrArg Value.bool h1) ?_
    refine RunL.still rfl rfl rfl (Still.not rfl rfl) ?_
    refine RunL.still rfl rfl rfl (Still.move rfl rfl) ?_
    refine RunL.still rfl rfl rfl (Still.move rfl rfl) ?_
    refine RunL.still rfl rfl rfl (Still.move rfl rfl) ?_
    refine RunL.still rfl rfl rfl (Still.nilCheck rfl rfl) ?_
    refine RunL.still rfl rfl rfl (Still.fieldAddrA (off := 2) rfl rfl Tryz.underlying89 rfl Tryz.sizeOf87 rfl) ?_
    refine RunL.still rfl rfl rfl (Still.load (v := av) rfl rfl Tryz.isAgg87 (fun _ hs => ((DgAt.of_own (hd.sym hs) (hs.at (i := 0) rfl) (hs.own (i := 1) rfl))).c2)) ?_
    refine RunL.still rfl rfl rfl (Still.lenV rfl rfl Tryz.underlying87 (hav)) ?_
    refine RunL.grows rfl rfl rfl (Grows.call (vs := #[_, _]) rfl rfl Tryz.call50 (fun w hs => z_isOrder yb YA yc ys (2 * d.cross.length : Nat) w (hy.sym hs) h8y)) (fun _ _ => ?_)
    refine RunL.again (t := 41) (u := .bool false) rfl (congrArg Value.bool h2) ?_
    refine RunL.still rfl rfl rfl (Still.not rfl rfl) ?_
    refine RunL.still rfl rfl rfl (Still.pickF rfl rfl rfl) ?_
    refine RunL.nil ?_
    refine Ends.then ?_
    refine RunC.cond_true rfl ?_
    refine RunC.seq ?_
    refine RunC.region ?_
    refine RunL.still rfl rfl rfl (Still.build_0 (.agg #[.slice none 0 0, .int .i64 0]) rfl (fun _ => by kernel_rfl)) ?_
    refine RunL.does0 rfl rfl (Does.store rfl rfl rfl (i := 2) rfl Tryz.sizeOf24 rfl (rfl) rfl) (fun _ _ => ?_)
    refine RunL.conv (fun _ hs => hs.re 2 rfl (show _ = HL.obj b6 (.cells #[.slice none 0 0, iv 0] 24 (0, 0)) from rfl)) ?_
    refine RunL.still rfl rfl rfl (Still.assign rfl rfl) ?_
    refine RunL.nil ?_
    refine Ends.then ?_
    refine RunC.ret ?_
    refine Ends.then_ret ?_
    refine Ends.leave (.inl rfl) (fun _ _ ok => results2 Tryz.results16 (Holds.cell rfl (fun _ hs => load_cells (vs := [_, _]) Tryz.isAgg24 Tryz.sizeOf24 rfl (cells_nth (hs.at (i := 2) rfl) ⟨rfl, ⟨rfl, trivial⟩⟩))) (Holds.tmp rfl) ok) (fun w1 hs => ?_)
    exact Ret.intro () trivial rfl (HSub.nil _) hs

theorem dg_Renumber_ok (base : Option Addr) (A : Addr) (cap : Nat) (d : Dia) (ob : Option Addr) (OA : Addr) (oc : Nat) (xs : List Int) (yb : Option Addr) (YA : Addr) (yc : Nat) (ys : List Int) (w : World) (hd : DiaAt w base A d) (hx : IntsAt w ob OA oc xs) (hy : IntsAt w yb YA yc ys) (h8x : xs.length * 8 ≤ 140737488355328) (h8y : ys.length * 8 ≤ 140737488355328) (hc : checkI d = 0) (h1 : ordB xs d.cross.length = true) (h2 : ordB ys (2 * d.cross.length : Nat) = true) : Gives Tryz.prog 16 #[diaV base cap d, lisV ob oc xs, lisV yb yc ys] w Nil (fun q : Option Addr × Nat => OKB q (renD d xs ys).cross.length) (fun q => .tuple #[diaV q.1 q.2 (renD d xs ys), iv 0]) (fun q => [ownD q (renD d xs ys)]) := by
  obtain ⟨hS, hPl⟩ := checkI_ok.1 hc
  have h200 := hS.1
  have hlo := hS.2.1
  have hlo2 := hS.2.2.1
  have l1 := (ordB_iff.1 h1).1
  have l2 := (ordB_iff.1 h2).1
  refine fn_of_run (S := Nil) (args := [diaV base cap d, lisV ob oc xs, lisV yb yc ys]) (n := 87) (L := []) Tryz.func16 rfl Tryz.ntmps16 (Nat.le_of_ble_eq_true rfl) (Sym.nil _ _) ?_
  change RunC _ _ _ [(0, _), (1, _), (2, _)] _
  refine RunC.seq ?_
  refine RunC.region ?_
  refine RunL.grows rfl rfl rfl (Grows.box rfl rfl) (fun b3 _ => ?_)
  refine RunL.grows rfl rfl rfl (Grows.alloc rfl Tryz.zeroValue24) (fun b6 _ => ?_)
  refine RunL.still rfl rfl rfl (Still.assign rfl rfl) ?_
  refine RunL.nil ?_
  refine Ends.then ?_
  refine RunC.seq ?_
  refine RunC.region ?_
  refine RunL.still rfl rfl rfl (Still.loads rfl rfl Tryz.isAgg24 Tryz.sizeOf24 (vs := [_, _]) rfl (fun _ hs => cells_nth (hs.at (i := 1) rfl) ⟨rfl, ⟨rfl, trivial⟩⟩)) ?_
  refine RunL.grows rfl rfl rfl (Grows.call (vs := #[_]) rfl rfl Tryz.call31 (fun w hs => dg_enter_ok base A cap d w (hd.sym hs) hc)) (fun ⟨eb, av⟩ hav => ?_)
  have hav : Shape av (2 * d.cross.length) := hav
  refine RunL.still rfl rfl rfl (Still.move rfl rfl) ?_
  refine RunL.still rfl rfl rfl (Still.extractN rfl rfl rfl) ?_
  refine RunL.still rfl rfl rfl (Still.extractN rfl rfl rfl) ?_
  refine RunL.still rfl rfl rfl (Still.assign rfl rfl) ?_
  refine RunL.still rfl rfl rfl (Still.assign rfl rfl) ?_
  refine RunL.nil ?_
  refine Ends.then ?_
  refine RunC.seq ?_
  refine RunC.seq ?_
  refine RunC.region ?_
  refine RunL.still rfl rfl rfl (Still.move rfl rfl) ?_
  refine RunL.still rfl rfl rfl (Still.neq rfl rfl rfl) ?_
  refine RunL.nil ?_
  refine Ends.then ?_
  refine RunC.cond rfl (fun h22 => ?_) (fun h22 => ?_)
  · have h22 := of_decide_eq_true h22
    exact absurd rfl h22
  · have h22 := of_decide_eq_false h22
    refine RunC.skip ?_
    refine Ends.then ?_
    refine RunC.seq ?_
    refine RunC.seq ?_
    refine RunC.region ?_
    refine RunL.still rfl rfl rfl (Still.move rfl rfl) ?_
    refine RunL.still rfl rfl rfl (Still.move rfl rfl) ?_
    refine RunL.still rfl rfl rfl (Still.nilCheck rfl rfl) ?_
    refine RunL.still rfl rfl rfl (Still.fieldAddrA (off := 0) rfl rfl Tryz.underlying89 rfl Tryz.sizeOf24 rfl) ?_
    refine RunL.still rfl rfl rfl (Still.fieldAddrA (off := 0) rfl rfl Tryz.underlying24 rfl Tryz.sizeOf22 rfl) ?_
    refine RunL.still rfl rfl rfl (Still.load (v := .slice base d.cross.length cap) rfl rfl Tryz.isAgg22 (fun _ hs => ((DgAt.of_own (hd.sym hs) (hs.at (i := 0) rfl) (hs.own (i := 1) rfl))).c0)) ?_
    refine RunL.still rfl rfl rfl (Still.lenSlice rfl rfl Tryz.underlying22) ?_
    refine RunL.grows rfl rfl rfl (Grows.call (vs := #[_, _]) rfl rfl Tryz.call50 (fun w hs => z_isOrder ob OA oc xs d.cross.length w (hx.sym hs) h8x)) (fun _ _ => ?_)
    refine RunL.again (t := 32) (u := .bool true) rfl (congrArg Value.bool h1) ?_
    refine RunL.still rfl rfl rfl (Still.not rfl rfl) ?_
    refine RunL.still rfl rfl rfl (Still.move rfl rfl) ?_
    refine RunL.still rfl rfl rfl (Still.move rfl rfl) ?_
    refine RunL.still rfl rfl rfl (Still.move rfl rfl) ?_
    refine RunL.still rfl rfl rfl (Still.nilCheck rfl rfl) ?_
    refine RunL.still rfl rfl rfl (Still.fieldAddrA (off := 2) rfl rfl Tryz.underlying89 rfl Tryz.sizeOf87 rfl) ?_
    refine RunL.still rfl rfl rfl (Still.load (v := av) rfl rfl Tryz.isAgg87 (fun _ hs => ((DgAt.of_own (hd.sym hs) (hs.at (i := 0) rfl) (hs.own (i := 1) rfl))).c2)) ?_
    refine RunL.still rfl rfl rfl (Still.lenV rfl rfl Tryz.underlying87 (hav)) ?_
    refine RunL.grows rfl rfl rfl (Grows.call (vs := #[_, _]) rfl rfl Tryz.call50 (fun w hs => z_isOrder yb YA yc ys (2 * d.cross.length : Nat) w (hy.sym hs) h8y)) (fun _ _ => ?_)
    refine RunL.again (t := 41) (u := .bool true) rfl (congrArg Value.bool h2) ?_
    refine RunL.still rfl rfl rfl (Still.not rfl rfl) ?_
    refine RunL.still rfl rfl rfl (Still.pickF rfl rfl rfl) ?_
    refine RunL.nil ?_
    refine Ends.then ?_
    refine RunC.cond_false rfl ?_
    refine RunC.skip ?_
    refine Ends.then ?_
    refine RunC.seq ?_
    refine RunC.region ?_
    refine RunL.still rfl rfl rfl (Still.move rfl rfl) ?_
    refine RunL.still rfl rfl rfl (Still.nilCheck rfl rfl) ?_
    refine RunL.still rfl rfl rfl (Still.fieldAddrA (off := 0) rfl rfl Tryz.underlying89 rfl Tryz.sizeOf24 rfl) ?_
    refine RunL.still rfl rfl rfl (Still.fieldAddrA (off := 1) rfl rfl Tryz.underlying24 rfl Tryz.sizeOf3 rfl) ?_
    refine RunL.still rfl rfl rfl (Still.load (v := iv d.loops) rfl rfl Tryz.isAgg3 (fun _ hs => ((DgAt.of_own (hd.sym hs) (hs.at (i := 0) rfl) (hs.own (i := 1) rfl))).c1)) ?_
    refine RunL.still rfl rfl rfl (Still.build_1 (fun x0_0 => .agg #[.slice none 0 0, x0_0]) rfl rfl (fun _ => by kernel_rfl)) ?_
    refine RunL.grows rfl rfl rfl (Grows.alloc rfl Tryz.zeroValue24) (fun b10 _ => ?_)
    refine RunL.does0 rfl rfl (Does.store rfl rfl rfl (i := 0) rfl Tryz.sizeOf24 rfl (rfl) rfl) (fun _ _ => ?_)
    refine RunL.conv (fun _ hs => hs.re 0 rfl (show _ = HL.obj b10 (.cells #[.slice none 0 0, iv d.loops] 24 (0, 0)) from rfl)) ?_
    refine RunL.nil ?_
    refine Ends.then ?_
    refine RunC.seq ?_
    refine RunC.seq ?_
    refine RunC.own_nil 62 5 ?_
    refine RunC.region ?_
    refine RunL.still rfl rfl rfl (Still.move rfl rfl) ?_
    refine RunL.still rfl rfl rfl (Still.lenV rfl rfl Tryz.underlying36 (hx.shape)) ?_
    refine RunL.still rfl rfl rfl (Still.move rfl rfl) ?_
    refine RunL.nil ?_
    refine Ends.then ?_
    refine RunC.block ?_
    refine RunC.loop2 (γ := Value × Nat) (keep := [(2, _), (6, _), (8, _), (10, _), (51, _), (52, _)]) (hkeep := [_, _, _, _]) (fun (v, i) => i ≤ xs.length) (fun (v, i) => xs.length - i) (fun (v, i) => [(53, iv i)]) (fun (v, i) => [HL.obj b10 (.cells #[v, iv d.loops] 24 (0, 0)), HL.own 62 5 v i ((rnTo d xs ys i).flatMap encCr)]) (.slice none 0 0, 0) (Nat.zero_le _) (Fr.Sub.cons rfl (Fr.Sub.nil _)) (Fr.Sub.cons rfl (Fr.Sub.cons rfl (Fr.Sub.cons rfl (Fr.Sub.cons rfl (Fr.Sub.cons rfl (Fr.Sub.cons rfl (Fr.Sub.nil _))))))) (HSub.pick 1 rfl (HSub.pick 0 rfl (HSub.pick 0 rfl (HSub.pick 0 rfl (HSub.pick 0 rfl (HSub.pick 0 rfl (HSub.nil _))))))) ?_
    rintro ⟨v, i⟩ hi
    have hi : i ≤ xs.length := hi
    refine RunC.seq ?_
    refine RunC.region ?_
    refine RunL.still rfl rfl rfl (Still.lss rfl rfl rfl) ?_
    refine RunL.nil ?_
    refine Ends.then ?_
    refine RunC.seq ?_
    refine RunC.cond rfl (fun h54 => ?_) (fun h54 => ?_)
    · have h54 := of_decide_eq_true h54
      obtain ⟨x, hxi⟩ := get_of_lt (l := xs) (i := i) (by omega)
      have hxr := (ordB_mem h1).1 (List.mem_of_getElem? hxi)
      obtain ⟨c, rfl⟩ : ∃ c : Nat, x = (c : Int) := ⟨x.toNat, by omega⟩
      have hcN : c < d.cross.length := by omega
      refine RunC.skip ?_
      refine Ends.then ?_
      refine RunC.seq ?_
      refine RunC.block ?_
      refine RunC.seq ?_
      refine RunC.region ?_
      refine RunL.still rfl rfl rfl (Still.indexV _ rfl rfl rfl Tryz.underlying36 Tryz.sizeOf3 (hx.shape) (rfl) (by omega)) ?_
      refine RunL.still rfl rfl rfl (Still.load rfl rfl Tryz.isAgg3 (fun _ hs => cells_at ((hx.sym hs).cells _) (ints_get hxi))) ?_
      refine RunL.still rfl rfl rfl (Still.assign rfl rfl) ?_
      refine RunL.nil ?_
      refine Ends.then ?_
      refine RunC.seq ?_
      refine RunC.region ?_
      refine RunL.still rfl rfl rfl (Still.move rfl rfl) ?_
      refine RunL.still rfl rfl rfl (Still.nilCheck rfl rfl) ?_
      refine RunL.still rfl rfl rfl (Still.fieldAddrA (off := 0) rfl rfl Tryz.underlying89 rfl Tryz.sizeOf24 rfl) ?_
      refine RunL.still rfl rfl rfl (Still.fieldAddrA (off := 0) rfl rfl Tryz.underlying24 rfl Tryz.sizeOf22 rfl) ?_
      refine RunL.still rfl rfl rfl (Still.load (v := .slice base d.cross.length cap) rfl rfl Tryz.isAgg22 (fun _ hs => ((DgAt.of_own (hd.sym hs) (hs.at (i := 2) rfl) (hs.own (i := 3) rfl))).c0)) ?_
      refine RunL.still rfl rfl rfl (Still.move rfl rfl) ?_
      refine RunL.still rfl rfl rfl (Still.indexSliceN rfl rfl rfl Tryz.underlying22 Tryz.sizeOf62 (hd.base (by omega)) (by omega)) ?_
      refine RunL.still rfl rfl rfl (Still.loads rfl rfl Tryz.isAgg62 Tryz.sizeOf62 (vs := encCr (crAt d c)) rfl (fun _ hs => Cells.base0 (hd.cross (crAt_get hcN)) hs)) ?_
      refine RunL.grows rfl rfl rfl (Grows.alloc rfl Tryz.zeroValue62) (fun b13 _ => ?_)
      refine RunL.does0 rfl rfl (Does.store rfl rfl rfl (i := 0) rfl Tryz.sizeOf62 rfl (rfl) rfl) (fun _ _ => ?_)
      refine RunL.conv (fun _ hs => hs.re 0 rfl (show _ = HL.obj b13 (.cells #[iv (crAt d c).a0, iv (crAt d c).a1, iv (crAt d c).a2, iv (crAt d c).a3, iv (crAt d c).s] 62 (0, 0)) from rfl)) ?_
      refine RunL.nil ?_
      refine Ends.then ?_
      refine RunC.seq ?_
      refine RunC.seq ?_
      refine RunC.region ?_
      refine RunL.still rfl rfl rfl (Still.fieldAddrL (off := 0) (off' := 0) rfl rfl Tryz.underlying62 rfl Tryz.sizeOf60 rfl) ?_
      refine RunL.still rfl rfl rfl (Still.loads rfl rfl Tryz.isAgg60 Tryz.sizeOf60 (vs := [_, _, _, _]) rfl (fun _ hs => cells_nth (hs.at (i := 0) rfl) ⟨rfl, ⟨rfl, ⟨rfl, ⟨rfl, trivial⟩⟩⟩⟩)) ?_
      refine RunL.still rfl rfl rfl (Still.move rfl rfl) ?_
      refine RunL.nil ?_
      refine Ends.then ?_
      refine RunC.block ?_
      refine RunC.loop2 (γ := Nat) (keep := [(2, _), (6, _), (8, _), (10, _), (13, _), (51, _), (52, _), (53, _), (66, _)]) (hkeep := [_, _, _, _, _, _]) (fun p => p ≤ 4) (fun p => 4 - p) (fun p => [(67, iv p)]) (fun p => [HL.obj b13 (.cells (rnArr ys (crAt d c) p) 62 (0, 0))]) 0 (Nat.zero_le _) (Fr.Sub.cons rfl (Fr.Sub.nil _)) (Fr.Sub.cons rfl (Fr.Sub.cons rfl (Fr.Sub.cons rfl (Fr.Sub.cons rfl (Fr.Sub.cons rfl (Fr.Sub.cons rfl (Fr.Sub.cons rfl (Fr.Sub.cons rfl (Fr.Sub.cons rfl (Fr.Sub.nil _)))))))))) (HSub.pick 0 rfl (HSub.pick 0 rfl (HSub.pick 0 rfl (HSub.pick 0 rfl (HSub.pick 0 rfl (HSub.pick 0 rfl (HSub.pick 0 rfl (HSub.nil _)))))))) ?_
      rintro p hp
      refine RunC.seq ?_
      refine RunC.region ?_
      refine RunL.still rfl rfl rfl (Still.lss rfl rfl rfl) ?_
      refine RunL.nil ?_
      refine Ends.then ?_
      refine RunC.seq ?_
      refine RunC.cond rfl (fun h68 => ?_) (fun h68 => ?_)
      · have h68 := of_decide_eq_true h68
        have hp4 : p < 4 := by omega
        have hpa := hS.arc hcN hp4
        obtain ⟨yv, hyv⟩ := get_of_lt (l := ys) (i := ((crAt d c).arc p).toNat) (by omega)
        have hyr := (ordB_mem h2).1 (List.mem_of_getElem? hyv)
        have hyn : yv = (newA ys ((crAt d c).arc p).toNat : Int) := by rw [newA, List.getD_eq_getElem?_getD, hyv]; simp only [Option.getD_some]; omega
        refine RunC.skip ?_
        refine Ends.then ?_
        refine RunC.seq ?_
        refine RunC.block ?_
        refine RunC.seq ?_
        refine RunC.region ?_
        refine RunL.still rfl rfl rfl (Still.move rfl rfl) ?_
        refine RunL.still rfl rfl rfl (Still.index rfl rfl rfl Tryz.underlying60 Tryz.sizeOf3 Tryz.isAgg3 ⟨by omega, by omega⟩ (row_at _ hp4)) ?_
        refine RunL.again (t := 70) (u := iv ((crAt d c).arc p)) rfl rfl ?_
        refine RunL.still rfl rfl rfl (Still.assign rfl rfl) ?_
        refine RunL.still rfl rfl rfl (Still.assign rfl rfl) ?_
        refine RunL.nil ?_
        refine Ends.then ?_
        refine RunC.region ?_
        refine RunL.still rfl rfl rfl (Still.move rfl rfl) ?_
        refine RunL.still rfl rfl rfl (Still.move rfl rfl) ?_
        refine RunL.still rfl rfl rfl (Still.move rfl rfl) ?_
        refine RunL.still rfl rfl rfl (Still.indexV ((crAt d c).arc p).toNat rfl rfl rfl Tryz.underlying36 Tryz.sizeOf3 (hy.shape) (by omega) (by omega)) ?_
        refine RunL.still rfl rfl rfl (Still.load rfl rfl Tryz.isAgg3 (fun _ hs => cells_at ((hy.sym hs).cells _) (ints_get hyv))) ?_
        refine RunL.still rfl rfl rfl (Still.fieldAddrL (off := 0) (off' := 0) rfl rfl Tryz.underlying62 rfl Tryz.sizeOf60 rfl) ?_
        refine RunL.still rfl rfl rfl (Still.indexArrNL rfl rfl rfl Tryz.underlying60 Tryz.sizeOf3 (by omega)) ?_
        refine RunL.does0 rfl rfl (Does.store1 rfl rfl rfl (i := 0) rfl Tryz.sizeOf3 rfl (Nat.ble_eq_true_of_le (show 0 + p * 1 + 1 ≤ 5 by omega))) (fun _ _ => ?_)
        refine RunL.conv (fun _ hs => hs.re 0 rfl (show _ = HL.obj b13 (.cells (rnArr ys (crAt d c) (p + 1)) 62 (0, 0)) from congrArg (fun z => HL.obj b13 (.cells z 62 (0, 0))) (rnArr_set ys (crAt d c) hp4 hyn))) ?_
        refine RunL.nil ?_
        refine Ends.block ?_
        refine Ends.then ?_
        refine RunC.region ?_
        refine RunL.still rfl rfl rfl (Still.add rfl rfl rfl (fits64 (by omega) (by omega))) ?_
        refine RunL.still rfl rfl rfl (Still.move rfl rfl) ?_
        refine RunL.nil ?_
        refine Ends.again (p + 1) ?_ ?_ (Fr.Sub.app ?_ ?_) ?_
        · show _; omega
        · show _ < _; omega
        · exact Fr.Sub.cons rfl (Fr.Sub.nil _)
        · exact Fr.Sub.cons rfl (Fr.Sub.cons rfl (Fr.Sub.cons rfl (Fr.Sub.cons rfl (Fr.Sub.cons rfl (Fr.Sub.cons rfl (Fr.Sub.cons rfl (Fr.Sub.cons rfl (Fr.Sub.cons rfl (Fr.Sub.nil _)))))))))
        · exact HSub.pick 0 rfl (HSub.pick 0 rfl (HSub.pick 0 rfl (HSub.pick 0 rfl (HSub.pick 0 rfl (HSub.pick 0 rfl (HSub.pick 0 rfl (HSub.nil _)))))))
      · have h68 := of_decide_eq_false h68
        obtain rfl : p = 4 := by omega
        refine RunC.exit ?_
        refine Ends.then_exit ?_
        refine Ends.then_exit ?_
        refine Ends.block_exit ?_
        refine Ends.then ?_
        refine RunC.region ?_
        refine RunL.still rfl rfl rfl (Still.fieldAddrL (off := 0) (off' := 0) rfl rfl Tryz.underlying24 rfl Tryz.sizeOf22 rfl) ?_
        refine RunL.still rfl rfl rfl (Still.load rfl rfl Tryz.isAgg22 (fun _ hs => cell_nth (hs.at (i := 1) rfl) rfl)) ?_
        refine RunL.still rfl rfl rfl (Still.loads rfl rfl Tryz.isAgg62 Tryz.sizeOf62 (vs := [_, _, _, _, _]) rfl (fun _ hs => cells_nth (hs.at (i := 0) rfl) ⟨rfl, ⟨rfl, ⟨rfl, ⟨rfl, ⟨rfl, trivial⟩⟩⟩⟩⟩)) ?_
        refine RunL.grows rfl rfl rfl (Grows.slice1 rfl rfl Tryz.underlying22 Tryz.sizeOf62 rfl Tryz.zeroValue62 (by decide)) (fun b82 _ => ?_)
        refine RunL.does rfl rfl rfl (Does.appendTo (n' := (i + 1)) (xs' := ((rnTo d xs ys (i + 1)).flatMap encCr)) (news := [_, _, _, _, _]) rfl rfl rfl rfl (i := 3) rfl Tryz.underlying22 (by kernel_rfl : (_ : Option _) = some (some (.agg #[.int .i64 0, .int .i64 0, .int .i64 0, .int .i64 0, .int .i64 0]), 5, 40)) rfl rfl (fun _ hs => cells_nth (hs.at (i := 0) rfl) ⟨rfl, ⟨rfl, ⟨rfl, ⟨rfl, ⟨rfl, trivial⟩⟩⟩⟩⟩) rfl rfl (by omega) (by omega) (rfl) ((by rw [rnTo_succ hxi, List.flatMap_append]; rfl))) (fun v83 hv83 => ?_)
        refine RunL.know (fun _ hs => own_oneCell (hs.own (i := 3) rfl)) (fun h1v => ?_)
        refine RunL.still rfl rfl rfl (Still.fieldAddrL (off := 0) (off' := 0) rfl rfl Tryz.underlying24 rfl Tryz.sizeOf22 rfl) ?_
        refine RunL.does0 rfl rfl (Does.store1 rfl rfl rfl (i := 2) rfl Tryz.sizeOf22 (h1v) (rfl)) (fun _ _ => ?_)
        refine RunL.conv (fun _ hs => hs.re 2 rfl (show _ = HL.obj b10 (.cells #[v83, iv d.loops] 24 (0, 0)) from rfl)) ?_
        refine RunL.nil ?_
        refine Ends.block ?_
        refine Ends.then ?_
        refine RunC.region ?_
        refine RunL.still rfl rfl rfl (Still.add rfl rfl rfl (fits64 (by omega) (by omega))) ?_
        refine RunL.still rfl rfl rfl (Still.move rfl rfl) ?_
        refine RunL.nil ?_
        refine Ends.again (v83, i + 1) ?_ ?_ (Fr.Sub.app ?_ ?_) ?_
        · show i + 1 ≤ _; omega
        · show _ - (i + 1) < _ - i; omega
        · exact Fr.Sub.cons rfl (Fr.Sub.nil _)
        · exact Fr.Sub.cons rfl (Fr.Sub.cons rfl (Fr.Sub.cons rfl (Fr.Sub.cons rfl (Fr.Sub.cons rfl (Fr.Sub.cons rfl (Fr.Sub.nil _))))))
        · exact HSub.pick 2 rfl (HSub.pick 2 rfl (HSub.pick 2 rfl (HSub.pick 2 rfl (HSub.pick 2 rfl (HSub.pick 2 rfl (HSub.nil _))))))
    · have h54 := of_decide_eq_false h54
      obtain rfl : i = xs.length := by omega
      refine RunC.exit ?_
      refine Ends.then_exit ?_
      refine Ends.then_exit ?_
      refine Ends.block_exit ?_
      refine Ends.then ?_
      refine RunC.seq ?_
      refine RunC.region ?_
      refine RunL.know (fun _ hs => own_shape (hs.own (i := 1) rfl)) (fun hsh => ?_)
      obtain ⟨xb, xc, hxv, hxb⟩ := hsh
      subst hxv
      refine RunL.still rfl rfl rfl (Still.loads rfl rfl Tryz.isAgg24 Tryz.sizeOf24 (vs := [_, _]) rfl (fun _ hs => cells_nth (hs.at (i := 0) rfl) ⟨rfl, ⟨rfl, trivial⟩⟩)) ?_
      refine RunL.does0 rfl rfl (Does.store rfl rfl rfl (i := 4) rfl Tryz.sizeOf24 rfl (rfl) rfl) (fun _ _ => ?_)
      refine RunL.conv (fun _ hs => hs.re 4 rfl (show _ = HL.obj b6 (.cells #[.slice xb xs.length xc, iv d.loops] 24 (0, 0)) from rfl)) ?_
      refine RunL.still rfl rfl rfl (Still.assign rfl rfl) ?_
      refine RunL.nil ?_
      refine Ends.then ?_
      refine RunC.ret ?_
      have hrl : (renD d xs ys).cross.length = xs.length := by rw [← rnTo_all, rnTo_len (Nat.le_refl _)]
      refine Ends.leave (.inl rfl) (fun _ _ ok => results2 Tryz.results16 (Holds.cell rfl (fun _ hs => load_cells (vs := [_, _]) Tryz.isAgg24 Tryz.sizeOf24 rfl (cells_nth (hs.at (i := 4) rfl) ⟨rfl, ⟨rfl, trivial⟩⟩))) (Holds.tmp rfl) ok) (fun w1 hs => ?_)
      refine Ret.intro (xb, xc) (by show OKB (xb, xc) (renD d xs ys).cross.length; rw [hrl]; exact hxb) (by show _ = Value.tuple #[.agg #[.slice xb (renD d xs ys).cross.length xc, iv d.loops], iv 0]; rw [hrl]) (HSub.pick 1 ?_ (HSub.nil _)) hs
      rw [ownD, hrl, ← rnTo_all]; rfl

end Go.Proofs
/- Canonical forms, part i: what the program's loop over all crossings holds. -/
namespace Go.V
open Go
abbrev PC := Value × List Cr
def cellV : Option PC → Value
  | none => .slice none 0 0
  | some a => a.1
def rowHL (a : PC) : HL := HL.own 91 5 a.1 a.2.length (a.2.flatMap encCr)
/-- The best code of piece k among the first i candidates (a crossing and a way each). -/
def BestI (d : Dia) (os : List Int) (i k : Nat) : Option (List Cr) → Prop
  | none => ∀ j, j < i → os[j / 2]? ≠ some (k : Int)
  | some m => (∃ j, j < i ∧ os[j / 2]? = some (k : Int) ∧ m = codeOf d (j / 2) (j % 2)) ∧ ∀ j, j < i → os[j / 2]? = some (k : Int) → ¬ ltC (codeOf d (j / 2) (j % 2)) m
structure CanI (d : Dia) (os : List Int) (n : Nat) (cs : List (Option PC)) (az : List PC) (i : Nat) : Prop where
  len : cs.length = n
  best : ∀ (k : Nat) (b : Option PC), cs[k]? = some b → BestI d os i k (b.map Prod.snd)
  mem : ∀ (k : Nat) (a : PC), cs[k]? = some (some a) → a ∈ az
  sl : ∀ a ∈ az, ∃ g cp, a.1 = .slice (some ⟨g, 0, none⟩) a.2.length cp
theorem CanI.zero (d : Dia) (os : List Int) (n : Nat) : CanI d os n (List.replicate n none) [] 0 where
  len := by simp
  best k b h := by
    rw [List.getElem?_replicate] at h
    split at h
    · cases h; intro j hj; exact absurd hj (Nat.not_lt_zero _)
    · cases h
  mem k a h := by rw [List.getElem?_replicate] at h; split at h <;> simp at h
  sl a h := by cases h
theorem BestI.other {d : Dia} {os : List Int} {i k k' : Nat} (hk : os[i / 2]? = some (k : Int)) (hne : k' ≠ k) : ∀ {b : Option (List Cr)}, BestI d os i k' b → BestI d os (i + 1) k' b
  | none, h => fun j hj => by
    by_cases e : j = i
    · subst e; rw [hk]; intro x; simp at x; omega
    · exact h j (by omega)
  | some m, h => by
    obtain ⟨⟨j, hj, h1, h2⟩, h3⟩ := h
    refine ⟨⟨j, by omega, h1, h2⟩, fun j hj hjk => ?_⟩
    by_cases e : j = i
    · subst e; rw [hk] at hjk; simp at hjk; omega
    · exact h3 j (by omega) hjk
theorem CanI.put {d : Dia} {os : List Int} {n : Nat} {cs : List (Option PC)} {az : List PC} {i k : Nat} (h : CanI d os n cs az i) (hk : os[i / 2]? = some (k : Int)) {b : Option PC} (hb : cs[k]? = some b) {a : PC} (ha : a.2 = codeOf d (i / 2) (i % 2)) (hs : ∃ g cp, a.1 = .slice (some ⟨g, 0, none⟩) a.2.length cp)
    (hlt : ∀ a0, b = some a0 → ltC a.2 a0.2) : CanI d os n (cs.set k (some a)) (az ++ [a]) (i + 1) where
  len := by rw [List.length_set]; exact h.len
  best k' b' hb' := by
    have hkl := (List.getElem?_eq_some_iff.1 hb).1
    rw [List.getElem?_set] at hb'
    by_cases e : k = k'
    · subst e
      rw [if_pos rfl, if_pos hkl] at hb'
      cases hb'
      have h0 := h.best k b hb
      refine ⟨⟨i, by omega, hk, ha⟩, fun j hj hjk => ?_⟩
      by_cases ej : j = i
      · subst ej; rw [← ha]; exact ltC_irrefl _
      · cases b with
        | none => exact absurd hjk (h0 j (by omega))
        | some a0 =>
          obtain ⟨_, h2⟩ := h0
          intro k1
          exact h2 j (by omega) hjk (ltC_trans k1 (hlt a0 rfl))
    · rw [if_neg e] at hb'
      exact BestI.other hk (fun k1 => e k1.symm) (h.best k' b' hb')
  mem k' a' h' := by
    rw [List.getElem?_set] at h'
    split at h'
    · split at h'
      · simp at h'; subst h'; simp
      · cases h'
    · exact List.mem_append.2 (.inl (h.mem k' a' h'))
  sl a' h' := by
    rcases List.mem_append.1 h' with h1 | h1
    · exact h.sl a' h1
    · rw [List.mem_singleton.1 h1]; exact hs
theorem CanI.keep {d : Dia} {os : List Int} {n : Nat} {cs : List (Option PC)} {az : List PC} {i k : Nat} (h : CanI d os n cs az i) (hk : os[i / 2]? = some (k : Int)) {a0 : PC} (hb : cs[k]? = some (some a0)) {a : PC} (ha : a.2 = codeOf d (i / 2) (i % 2)) (hs : ∃ g cp, a.1 = .slice (some ⟨g, 0, none⟩) a.2.length cp)
    (hge : ¬ ltC a.2 a0.2) : CanI d os n cs (az ++ [a]) (i + 1) where
  len := h.len
  best k' b' hb' := by
    by_cases e : k = k'
    · subst e
      rw [hb] at hb'; cases hb'
      obtain ⟨⟨j, hj, h1, h2⟩, h3⟩ := h.best k (some a0) hb
      refine ⟨⟨j, by omega, h1, h2⟩, fun j hj hjk => ?_⟩
      by_cases ej : j = i
      · subst ej; rw [← ha]; exact hge
      · exact h3 j (by omega) hjk
    · exact BestI.other hk (fun k1 => e k1.symm) (h.best k' b' hb')
  mem k' a' h' := List.mem_append.2 (.inl (h.mem k' a' h'))
  sl a' h' := by
    rcases List.mem_append.1 h' with h1 | h1
    · exact h.sl a' h1
    · rw [List.mem_singleton.1 h1]; exact hs
/-- At the end there is a code for each piece. -/
theorem CanI.done {d : Dia} {os : List Int} {n : Nat} {cs : List (Option PC)} {az : List PC} (hS : SoundP d) (hP : PInv d os n) (hfull : ∀ c, c < d.cross.length → ∃ x, os[c]? = some x ∧ 0 ≤ x) (h : CanI d os n cs az (2 * d.cross.length)) :
    ∃ bs : List PC, cs = bs.map some ∧ (∀ a ∈ bs, a ∈ az) ∧ ∃ rs, CanR d rs ∧ rs.map Prod.snd = bs.map Prod.snd := by
  have hrep : ∀ k, k < n → ∃ c, c < d.cross.length ∧ os[c]? = some (k : Int) := fun k hk => by
    obtain ⟨c, hc⟩ := hP.onto k hk
    exact ⟨c, by have := (List.getElem?_eq_some_iff.1 hc).1; have := hP.len; omega, hc⟩
  have hcell : ∀ k, k < n → ∃ a, cs[k]? = some (some a) := fun k hk => by
    obtain ⟨b, hb⟩ := get_of_lt (l := cs) (i := k) (by rw [h.len]; exact hk)
    cases b with
    | some a => exact ⟨a, hb⟩
    | none =>
      obtain ⟨c, hc, ho⟩ := hrep k hk
      exact absurd (by rw [show 2 * c / 2 = c by omega]; exact ho) (h.best k none hb (2 * c) (by omega))
  have hD : ∀ k, Decidable (∃ c, c < d.cross.length ∧ os[c]? = some (k : Int)) := fun _ => Classical.propDecidable _
  let rep : Nat → Nat := fun k => if q : ∃ c, c < d.cross.length ∧ os[c]? = some (k : Int) then Classical.choose q else 0
  have hr : ∀ k, k < n → rep k < d.cross.length ∧ os[rep k]? = some (k : Int) := fun k hk => by
    show (if q : _ then _ else _) < _ ∧ os[(if q : _ then _ else _)]? = _
    rw [dif_pos (hrep k hk)]; exact Classical.choose_spec (hrep k hk)
  let bs : List PC := cs.map fun b => b.getD (.slice none 0 0, [])
  have hcs : cs = bs.map some := by
    apply List.ext_getElem?
    intro k
    rw [List.getElem?_map, List.getElem?_map]
    by_cases hk : k < n
    · obtain ⟨a, ha⟩ := hcell k hk
      rw [ha]; rfl
    · rw [List.getElem?_eq_none (by rw [h.len]; omega)]; rfl
  have hbs : ∀ k a, bs[k]? = some a → cs[k]? = some (some a) := fun k a ha => by rw [hcs, List.getElem?_map, ha]; rfl
  have hbl : bs.length = n := by rw [List.length_map]; exact h.len
  refine ⟨bs, hcs, fun a ha => ?_, (List.range n).map (fun k => (rep k, (bs.getD k (.slice none 0 0, [])).2)), ⟨fun r hr' => ?_, ?_, fun c hc => ?_⟩, ?_⟩
  · obtain ⟨k, hk⟩ := List.getElem?_of_mem ha
    exact h.mem k a (hbs k a hk)
  · obtain ⟨k, hk, rfl⟩ := List.mem_map.1 hr'
    have hk := List.mem_range.1 hk
    obtain ⟨a, ha⟩ := get_of_lt (l := bs) (i := k) (by rw [hbl]; exact hk)
    obtain ⟨r1, r2⟩ := hr k hk
    have e : bs.getD k (.slice none 0 0, []) = a := by rw [List.getD_eq_getElem?_getD, ha]; rfl
    show IsMin d (rep k) (bs.getD k _).2
    rw [e]
    obtain ⟨⟨j, hj, h1, h2⟩, h3⟩ := h.best k (some a) (hbs k a ha)
    refine ⟨r1, ⟨j / 2, j % 2, ?_, by omega, h2⟩, fun x way hx hw => ?_⟩
    · exact (hP.cls (rep k) (j / 2) (k : Int) r2 (by omega) (by omega)).1 h1
    · have hxl := hx.lt hS r1
      have := h3 (2 * x + way) (by omega) (by rw [show (2 * x + way) / 2 = x by omega]; exact (hP.cls (rep k) x (k : Int) r2 (by omega) hxl).2 hx)
      rwa [show (2 * x + way) / 2 = x by omega, show (2 * x + way) % 2 = way by omega] at this
  · rw [List.pairwise_map]
    refine List.Pairwise.imp_of_mem ?_ List.pairwise_lt_range
    intro k k' hk hk' hlt hc
    obtain ⟨r1, r2⟩ := hr k (List.mem_range.1 hk)
    obtain ⟨r3, r4⟩ := hr k' (List.mem_range.1 hk')
    have := (hP.cls (rep k) (rep k') (k : Int) r2 (by omega) r3).2 hc
    rw [r4] at this; simp at this; omega
  · obtain ⟨x, hx, h0⟩ := hfull c hc
    have hxn := (hP.lo c x hx).2
    obtain ⟨r1, r2⟩ := hr x.toNat (by omega)
    refine ⟨_, List.mem_map.2 ⟨x.toNat, List.mem_range.2 (by omega), rfl⟩, ?_⟩
    exact (hP.cls (rep x.toNat) c (x.toNat : Nat) r2 (by omega) hc).1 (by rw [hx]; congr 1; omega)
  · rw [List.map_map]
    apply List.ext_getElem?
    intro k
    rw [List.getElem?_map, List.getElem?_map]
    by_cases hk : k < n
    · rw [List.getElem?_range hk]
      obtain ⟨a, ha⟩ := get_of_lt (l := bs) (i := k) (by rw [hbl]; exact hk)
      rw [ha]; show some (bs.getD k _).2 = some a.2
      rw [List.getD_eq_getElem?_getD, ha]; rfl
    · rw [List.getElem?_eq_none (by simpa using (by omega : n ≤ k)), List.getElem?_eq_none (by rw [hbl]; omega)]; rfl
end Go.V
/- Canonical forms, part k: the sorted codes one behind another. -/
namespace Go.V
open Go
theorem codeOf_pos {d : Dia} (hs : SoundP d) {c : Nat} (hc : c < d.cross.length) (way : Nat) : 0 < (codeOf d c way).length := by
  rw [codeOf_len]
  exact List.length_pos_of_mem (stdN_all hs hc way).start
theorem codeOf_le {d : Dia} (hs : SoundP d) {c : Nat} (hc : c < d.cross.length) (way : Nat) : (codeOf d c way).length ≤ d.cross.length := by
  rw [codeOf_len]; exact (stdN_ok hs hc way).clen
theorem posN_le (l : List Nat) (a : Nat) : posN l a ≤ l.length := by
  unfold posN; split
  · rename_i h; exact Nat.le_of_lt (List.idxOf_lt_length_of_mem h)
  · exact Nat.zero_le _
theorem codeOf_arc {d : Dia} (hs : SoundP d) {c : Nat} (hc : c < d.cross.length) {way : Nat} {y : Cr} (hy : y ∈ codeOf d c way) : ∀ p, p < 4 → 0 ≤ y.arc p ∧ y.arc p ≤ 2 * d.cross.length := fun p hp => by
  obtain ⟨k, _, rfl⟩ := List.mem_map.1 hy
  have h1 := (stdN_ok hs hc way).alen
  have h2 := posN_le (stdN d c way).1 ((crAt d k).arc p).toNat
  show 0 ≤ (renCr (posN (stdN d c way).1) (crAt d k)).arc p ∧ _
  rw [rowOf, renCr_arc _ _ hp]; omega
theorem flatC_snoc : ∀ (L : List (List Cr)) (k : Nat) (l : List Cr), flatC k (L ++ [l]) = flatC k L ++ l.map (shCr (2 * (k + (flatC k L).length) : Nat))
  | [], k, l => by simp [flatC]
  | m :: L, k, l => by
    rw [List.cons_append, flatC, flatC_snoc L (k + m.length) l, flatC, List.append_assoc, List.length_append, List.length_map]
    rw [show k + m.length + (flatC (k + m.length) L).length = k + (m.length + (flatC (k + m.length) L).length) by omega]
/-- The first i codes, one behind another. -/
def flatTo (bs : List PC) (i : Nat) : List Cr := flatC 0 ((bs.take i).map Prod.snd)
theorem flatTo_zero (bs : List PC) : flatTo bs 0 = [] := by simp [flatTo, flatC]
theorem flatTo_succ {bs : List PC} {i : Nat} {a : PC} (h : bs[i]? = some a) : flatTo bs (i + 1) = flatTo bs i ++ a.2.map (shCr (2 * (flatTo bs i).length : Nat)) := by
  unfold flatTo
  rw [List.take_add_one, h, Option.toList_some, List.map_append, List.map_singleton, flatC_snoc, Nat.zero_add]
theorem flatTo_all (bs : List PC) : flatTo bs bs.length = flatC 0 (bs.map Prod.snd) := by rw [flatTo, List.take_length]
theorem flatTo_le (bs : List PC) (i : Nat) : (flatTo bs i).length ≤ (flatC 0 (bs.map Prod.snd)).length := by
  unfold flatTo
  rw [flatC_len, flatC_len]
  have : bs.map Prod.snd = (bs.take i).map Prod.snd ++ (bs.drop i).map Prod.snd := by rw [← List.map_append, List.take_append_drop]
  rw [this, List.map_append, List.sum_append]; omega
theorem cellV_get {cs : List (Option PC)} {k : Nat} {b : Option PC} (h : cs[k]? = some b) : (cs.map cellV)[k]? = some (cellV b) := by rw [List.getElem?_map, h]; rfl
theorem cellV_set (cs : List (Option PC)) (k : Nat) (a : PC) : (cs.map cellV).set k a.1 = (cs.set k (some a)).map cellV := by rw [List.map_set]; rfl
theorem snoc_new {α : Type} (l : List α) (a : α) : (l ++ [a])[l.length]? = some a := by simp
theorem snoc_old {α : Type} {l : List α} {a b : α} (h : a ∈ l) : ∃ j : Nat, (l ++ [b])[j]? = some a := by
  obtain ⟨j, hj⟩ := List.getElem?_of_mem h
  exact ⟨j, by rw [List.getElem?_append_left (List.getElem?_eq_some_iff.1 hj).1]; exact hj⟩
/-- Some rows stay while the sort writes its own block. -/
theorem rows_keep {w0 w W : World} {S : Nat → Prop} {K : HL} {R : List HL} {az : List PC} (hs : Sym w0 S (K :: R) w) {i : Nat} (hi : R[i]? = some (HL.rows rowHL az)) (ho : Old (SK [K]) w W) : ∀ a ∈ az, Shape a.1 a.2.length ∧ Cells W (vaddr a.1) (a.2.flatMap encCr) := fun a ha => by
  have h1 := hs.keep hi (w' := W) (ho.mono fun k _ ⟨q, hq, hk⟩ => by rw [List.mem_singleton.1 hq] at hk; exact hk)
  obtain ⟨j, hj⟩ := List.getElem?_of_mem ha
  have h2 : W.ownsRow 0 91 5 a.1 a.2.length (a.2.flatMap encCr) := rows_get h1 hj
  exact ⟨own_shape h2, own_all h2⟩
/-- What the sorted codes are. -/
theorem sorted_can {d : Dia} {bs bs2 : List PC} {rs : List (Nat × List Cr)} (hR : CanR d rs) (hrs : rs.map Prod.snd = bs.map Prod.snd) (hp : bs2.Perm bs) (hso : bs2.Pairwise fun a b => ¬ ltC b.2 a.2) : IsCan d (bs2.map Prod.snd) :=
  ⟨⟨rs, hR, by rw [hrs]; exact hp.map _⟩, by rw [List.pairwise_map]; exact hso⟩
theorem sorted_code {d : Dia} (hS : SoundP d) {bs bs2 : List PC} {rs : List (Nat × List Cr)} (hR : CanR d rs) (hrs : rs.map Prod.snd = bs.map Prod.snd) (hp : bs2.Perm bs) : ∀ a ∈ bs2, ∃ c way, c < d.cross.length ∧ a.2 = codeOf d c way := fun a ha => by
  have h1 : a.2 ∈ rs.map Prod.snd := by rw [hrs]; exact List.mem_map.2 ⟨a, hp.mem_iff.1 ha, rfl⟩
  obtain ⟨r, hr, e⟩ := List.mem_map.1 h1
  obtain ⟨x, w, k, _, e2⟩ := (hR.min r hr).is
  exact ⟨x, w, k.lt hS (hR.min r hr).lt, by rw [← e, e2]⟩
theorem BestI.len {d : Dia} (hS : SoundP d) {os : List Int} {i k : Nat} {m : List Cr} (h : BestI d os i k (some m)) (hi : i ≤ 2 * d.cross.length) : m.length ≤ d.cross.length := by
  obtain ⟨⟨j, hj, _, rfl⟩, _⟩ := h
  exact codeOf_le hS (by omega) _
end Go.V
/-
  DERIVED: THE SHELF's CONTRACTS AT THIS DUMP, IN PLAIN WORDS (tools/lay-plain.mjs out of 'TrySortShelf.lean', which tools/lay-shelf.mjs wrote): THE SAME DECLARATIONS UNDER THE SAME NAMES: 'import', 'namespace', 'open', 'def', 'theorem' AND NOTHING ELSE: no command of the shelf's: FOR A HAND-IN. Each laying: the table of numbers ('.._ren') and one theorem, a field a fact of the dump's own or the kernel's comparison; each contract: ONE APPLICATION.
-/
namespace Go.Proofs
open Go.Shelf
def Tryz.sortL_ren : Go.Shelf.Ren := ⟨fun | 6 => 49 | 15 => 85 | 14 => 84 | 28 => 118 | 29 => 119 | 20 => 110 | 21 => 111 | 22 => 112 | 23 => 113 | 24 => 114 | 25 => 115 | 26 => 116 | 27 => 117 | 46 => 147 | 47 => 148 | 48 => 149 | 49 => 150 | 50 => 151 | 57 => 164 | n => n, fun | 22 => 82 | 24 => 83 | 25 => 85 | 3 => 3 | 39 => 140 | 0 => 0 | 53 => 178 | 55 => 180 | 4 => 4 | 46 => 172 | 45 => 171 | 50 => 168 | 5 => 5 | 9 => 9 | 66 => 203 | 70 => 207 | 76 => 222 | 77 => 223 | n => n, fun | n => n⟩
theorem Tryz.sortL : Go.Proofs.SlLaysF.n6 Tryz.prog Tryz.sortL_ren := {
  mixed := by kernel_rfl
  f6 := ⟨Tryz.f49.name, by decide, Tryz.func49.trans (congrArg some (by kernel_rfl))⟩
  f14 := ⟨Tryz.f84.name, by decide, Tryz.func84.trans (congrArg some (by kernel_rfl))⟩
  f15 := Tryz.func85.trans (congrArg some (by kernel_rfl))
  f20 := ⟨Tryz.f110.name, by decide, Tryz.func110.trans (congrArg some (by kernel_rfl))⟩
  f21 := ⟨Tryz.f111.name, by decide, Tryz.func111.trans (congrArg some (by kernel_rfl))⟩
  f22 := ⟨Tryz.f112.name, by decide, Tryz.func112.trans (congrArg some (by kernel_rfl))⟩
  f23 := ⟨Tryz.f113.name, by decide, Tryz.func113.trans (congrArg some (by kernel_rfl))⟩
  f24 := ⟨Tryz.f114.name, by decide, Tryz.func114.trans (congrArg some (by kernel_rfl))⟩
  f25 := ⟨Tryz.f115.name, by decide, Tryz.func115.trans (congrArg some (by kernel_rfl))⟩
  f26 := ⟨Tryz.f116.name, by decide, Tryz.func116.trans (congrArg some (by kernel_rfl))⟩
  f27 := ⟨Tryz.f117.name, by decide, Tryz.func117.trans (congrArg some (by kernel_rfl))⟩
  f28 := Tryz.func118.trans (congrArg some (by kernel_rfl))
  f29 := Tryz.func119.trans (congrArg some (by kernel_rfl))
  f46 := ⟨Tryz.f147.name, by decide, Tryz.func147.trans (congrArg some (by kernel_rfl))⟩
  f47 := Tryz.func148.trans (congrArg some (by kernel_rfl))
  f48 := Tryz.func149.trans (congrArg some (by kernel_rfl))
  f49 := ⟨Tryz.f150.name, by decide, Tryz.func150.trans (congrArg some (by kernel_rfl))⟩
  f50 := ⟨Tryz.f151.name, by decide, Tryz.func151.trans (congrArg some (by kernel_rfl))⟩
  f57 := ⟨Tryz.f164.name, by decide, Tryz.func164.trans (congrArg some (by kernel_rfl))⟩
  t0 := Tryz.underlying0
  a0 := Tryz.isAgg0
  z0 := Tryz.sizeOf0
  v0 := Tryz.zeroValue0
  t3 := Tryz.underlying3
  a3 := Tryz.isAgg3
  z3 := Tryz.sizeOf3
  v3 := Tryz.zeroValue3
  t4 := Tryz.underlying4
  a4 := Tryz.isAgg4
  z4 := Tryz.sizeOf4
  v4 := Tryz.zeroValue4
  t5 := Tryz.underlying5
  a5 := Tryz.isAgg5
  z5 := Tryz.sizeOf5
  v5 := Tryz.zeroValue5
  t9 := Tryz.underlying9
  a9 := Tryz.isAgg9
  z9 := Tryz.sizeOf9
  v9 := Tryz.zeroValue9
  t22 := Tryz.underlying82
  a22 := Tryz.isAgg82
  z22 := Tryz.sizeOf82
  v22 := Tryz.zeroValue82
  a24 := Tryz.isAgg83
  z24 := Tryz.sizeOf83
  t25 := Tryz.underlying85
  a25 := Tryz.isAgg85
  z25 := Tryz.sizeOf85
  v25 := Tryz.zeroValue85
  t39 := Tryz.underlying140
  a39 := Tryz.isAgg140
  z39 := Tryz.sizeOf140
  v39 := Tryz.zeroValue140
  t45 := Tryz.underlying171
  a45 := Tryz.isAgg171
  z45 := Tryz.sizeOf171
  v45 := Tryz.zeroValue171
  t46 := Tryz.underlying172
  a46 := Tryz.isAgg172
  z46 := Tryz.sizeOf172
  v46 := Tryz.zeroValue172
  t50 := Tryz.underlying168
  a50 := Tryz.isAgg168
  z50 := Tryz.sizeOf168
  v50 := Tryz.zeroValue168
  t53 := Tryz.underlying178
  a53 := Tryz.isAgg178
  z53 := Tryz.sizeOf178
  v53 := Tryz.zeroValue178
  t55 := Tryz.underlying180
  a55 := Tryz.isAgg180
  z55 := Tryz.sizeOf180
  v55 := Tryz.zeroValue180
  t66 := Tryz.underlying203
  a66 := Tryz.isAgg203
  z66 := Tryz.sizeOf203
  v66 := Tryz.zeroValue203
  t70 := Tryz.underlying207
  a70 := Tryz.isAgg207
  z70 := Tryz.sizeOf207
  v70 := Tryz.zeroValue207
  t76 := Tryz.underlying222
  a76 := Tryz.isAgg222
  z76 := Tryz.sizeOf222
  v76 := Tryz.zeroValue222
  t77 := Tryz.underlying223
  a77 := Tryz.isAgg223
  z77 := Tryz.sizeOf223
  v77 := Tryz.zeroValue223 }
end Go.Proofs
/- The sort of the library, over the codes. -/
namespace Go.Proofs
open Go Go.V Go.Shelf Go.RowKit Go.Sort
abbrev PA (az : List PC) : Type := {a : PC // a ∈ az ∨ a = (.slice none 0 0, [])}
instance paInh (az : List PC) : Inhabited (PA az) := ⟨⟨(.slice none 0 0, []), .inr rfl⟩⟩
theorem pa_swo (az : List PC) : SWO (ltOf (fun x y : PA az => cmpC x.1.2 y.1.2)) where
  irrefl x := by simp only [ltOf, decide_eq_false_iff_not]; rw [cmpC_lt]; exact ltC_irrefl _
  trans x y z h k := by
    simp only [ltOf, decide_eq_true_eq] at h k ⊢
    rw [cmpC_lt] at h k ⊢; exact ltC_trans h k
  ntrans x y z h k := by
    simp only [ltOf, decide_eq_false_iff_not] at h k ⊢
    rw [cmpC_lt] at h k ⊢; exact leC_trans k h
theorem z_Sort (blk n : Nat) (bs az : List PC) (hb : ∀ a ∈ bs, a ∈ az) (hn : bs.length = n) (h200 : n ≤ 200) (h2 : ∀ a ∈ az, a.2.length ≤ 200) (w : World) (hs0 : Sym w (SK [HL.own 83 1 (.slice (some ⟨blk, 0, none⟩) n n) n ((bs.map some).map cellV)]) [HL.own 83 1 (.slice (some ⟨blk, 0, none⟩) n n) n ((bs.map some).map cellV)] w)
    (hR : ∀ W, Old (SK [HL.own 83 1 (.slice (some ⟨blk, 0, none⟩) n n) n ((bs.map some).map cellV)]) w W → ∀ a ∈ az, Shape a.1 a.2.length ∧ Cells W (vaddr a.1) (a.2.flatMap encCr)) :
    Gives Tryz.prog 49 #[.slice (some ⟨blk, 0, none⟩) n n, .func (.func 48) #[] #[]] w (SK [HL.own 83 1 (.slice (some ⟨blk, 0, none⟩) n n) n ((bs.map some).map cellV)]) (fun bs2 : List PC => bs2.Perm bs ∧ bs2.Pairwise fun a b => ¬ ltC b.2 a.2) (fun _ => .tuple #[]) (fun bs2 => [HL.own 83 1 (.slice (some ⟨blk, 0, none⟩) n n) n (bs2.map Prod.fst)]) := by
  have hcells : (bs.map some).map cellV = bs.map Prod.fst := by rw [List.map_map]; rfl
  rw [hcells] at hs0 hR ⊢
  -- the block
  have ho : w.ownsRow 0 83 1 (.slice (some ⟨blk, 0, none⟩) n n) n (bs.map Prod.fst) := hs0.own (i := 0) rfl
  obtain ⟨cur, hcur, hsz, hall⟩ : ∃ cur, w.heap[blk]? = some (.cells cur 83 (0, 0)) ∧ cur.size = n ∧ cur.toList = bs.map Prod.fst := by
    rcases ho.2 with ⟨h1, _⟩ | ⟨g, cap, cur, hv, _, hg, _, _, hcs, htk⟩
    · cases h1
    · simp only [Value.slice.injEq, Option.some.injEq, Addr.mk.injEq] at hv
      obtain ⟨⟨rfl, _⟩, _, rfl⟩ := hv
      refine ⟨cur, hg, by omega, ?_⟩
      rw [← htk, List.take_of_length_le (by simp; omega)]
  have hblk : blk < w.heap.size := (hs0.supp _ List.mem_cons_self blk rfl).1
  -- the elements
  let dl : List (PA az) := bs.pmap (fun a h => ⟨a, .inl h⟩) hb
  have dlv : dl.map (fun a => a.1) = bs := by simp only [dl, List.map_pmap]; rw [List.pmap_eq_map]; simp
  have dll : dl.length = n := by simp [dl, hn]
  let d0 : Array (PA az) := dl.toArray
  let enc : PA az → Value := fun a => a.1.1
  have h1 : OneCell enc := fun a => by
    rcases a.2 with h | h
    · obtain ⟨b, c, e, _⟩ := (hR w (Old.refl _ w) a.1 h).1
      show (a.1.1).oneCell' = true
      rw [e]; rfl
    · show (a.1.1).oneCell' = true
      rw [h]; rfl
  have hH : Holds enc w blk 0 d0 := fun j hj => by
    have hj : j < dl.length := by simpa [d0] using hj
    refine ⟨?_, frozen_free hcur⟩
    have hx : d0[j]! = dl[j] := by rw [getElem!_pos d0 j (by simpa [d0] using hj)]; simp [d0]
    rw [hx, Nat.zero_add]
    refine cell_of_obj hcur ?_
    rw [← Array.getElem?_toList, hall, ← dlv, List.map_map, List.getElem?_map, List.getElem?_eq_getElem hj]; rfl
  have eg : ∀ args w, (callFunc 48 args).run Tryz.prog w = .ok (.enter 48 args) w := Tryz.call48
  have hold : ∀ (m : Nat) (os : Array Obj) (dk : Array (PA az)), Old (SK [HL.own 83 1 (.slice (some ⟨blk, 0, none⟩) n n) n (bs.map Prod.fst)]) w (sortWorld enc w blk 0 m dk os) := fun m os dk =>
    (sortW_old enc w blk m dk os).mono fun k _ hk => ⟨_, List.mem_cons_self, by rw [hk]; rfl⟩
  have hcmp : CmpLays1 Tryz.prog 48 #[] enc (fun x y : PA az => cmpC x.1.2 y.1.2) blk 0 d0.size w := fun m os dk _ x y => by
    have row : ∀ a : PA az, Shape a.1.1 a.1.2.length ∧ Cells (sortWorld enc w blk 0 m dk os) (vaddr a.1.1) (a.1.2.flatMap encCr) ∧ a.1.2.length ≤ 200 := fun a => by
      rcases a.2 with h | h
      · obtain ⟨k1, k2⟩ := hR _ (hold m os dk) a.1 h
        exact ⟨k1, k2, h2 a.1 h⟩
      · rw [h]
        exact ⟨⟨none, 0, rfl, fun k => absurd k (Nat.not_lt_zero _)⟩, fun j v hj => by simp at hj, Nat.zero_le _⟩
    obtain ⟨x1, x2, x3⟩ := row x
    obtain ⟨y1, y2, y3⟩ := row y
    have h := @z_compared ⟨True⟩ x.1.1 y.1.1 x.1.2 y.1.2 (sortWorld enc w blk 0 m dk os) x1 y1 (by omega) (by omega) x2 y2
    refine Calls.mono h ?_
    rintro e w' ⟨_, _, he, hs⟩
    exact ⟨he, old_grow (@Sym.old ⟨True⟩ _ _ _ _ hs)⟩
  have hcon := Any.slices_SortFunc Tryz.sortL enc h1 (fun x y : PA az => cmpC x.1.2 y.1.2) (pa_swo az) 48 #[] blk 0 n d0 w eg hcmp hH hblk (by simp [d0, dll]; omega)
  change Calls Tryz.prog 49 _ _ _ at hcon
  have hd0 : d0.size = n := by simp [d0, dll]
  rw [hd0] at hcon
  refine Calls.mono hcon ?_
  rintro e w' ⟨rfl, d', m, os, hp, hso, rfl⟩
  have hds : d'.size = n := hp.1.trans hd0
  have hpl : d'.toList.Perm dl := by
    have := hp.2.2
    rw [Array.extract_eq_self_of_le (by omega), Array.extract_eq_self_of_le (by omega)] at this
    simpa [d0] using this
  refine ⟨d'.toList.map (fun a => a.1), ⟨?_, ?_⟩, rfl, ?_⟩
  · have := hpl.map (fun a : PA az => a.1)
    rwa [dlv] at this
  · rw [List.pairwise_map, List.pairwise_iff_getElem]
    intro i j hi hj hij
    have hj' : j < d'.size := by simpa using hj
    have := hso i j (Nat.zero_le _) hij (by omega)
    rw [getElem!_pos d' i (by omega), getElem!_pos d' j hj'] at this
    simp only [ltOf, decide_eq_false_iff_not] at this
    rw [cmpC_lt] at this
    simpa using this
  · have hat := sortW_at enc w blk m d' os hcur
    have hcl := putCells_all enc d' (cur := cur) (by omega)
    refine ⟨hold m os d', fun h hm => ?_, fun h hm b hb => ?_, List.pairwise_singleton _ _⟩
    · rw [List.mem_singleton.1 hm]
      refine ⟨by simp [hds], .inr ⟨blk, n, _, rfl, Nat.zero_le _, hat, Nat.le_refl _, by simp [maxLen]; omega, ?_, ?_⟩⟩
      · have := congrArg List.length hcl; simp at this; omega
      · rw [hcl, List.take_of_length_le (by simp; omega), List.map_map]; rfl
    · rw [List.mem_singleton.1 hm] at hb
      have e : blk = b := Option.some.inj hb
      subst e
      have := (sortW_old enc w blk m d' os).size
      exact ⟨by omega, .inr ⟨_, List.mem_cons_self, rfl⟩⟩
end Go.Proofs
/- The canonical form, as the program makes it. -/
namespace Go.Proofs
open Go Go.V
set_option maxRecDepth 20000
theorem dg_Canonical_hd {d : Dia} (hS : SoundP d) {L : List (List Cr)} (h : IsCan d L) : (flatC 0 L).length = d.cross.length := by
  obtain ⟨s, t, r⟩ := can_ren hS h
  exact r.len
theorem flatTo_succ2 {bs : List PC} {i : Nat} {a : PC} (h : bs[i]? = some a) : flatTo bs (i + 1) = flatTo bs i ++ (a.2.take a.2.length).map (shCr (2 * (flatTo bs i).length : Nat)) := by rw [List.take_length]; exact flatTo_succ h
theorem flat4 (F : List Cr) (k : Int) {l : List Cr} {j : Nat} {y : Cr} (h : l[j]? = some y) : (F ++ (l.take j).map (shCr k)).flatMap encCr ++ [iv (y.a0 + k), iv (y.a1 + k), iv (y.a2 + k), iv (y.a3 + k), iv y.s] = (F ++ (l.take (j + 1)).map (shCr k)).flatMap encCr := by
  rw [List.take_add_one, h, Option.toList_some, List.map_append, List.map_singleton, ← List.append_assoc, List.flatMap_append]
  simp [encCr, shCr]

theorem dg_Canonical_ok (base : Option Addr) (A : Addr) (cap : Nat) (d : Dia) (w : World) (hd : DiaAt w base A d) (hc : checkI d = 0) : Gives Tryz.prog 15 #[diaV base cap d] w Nil (fun g : (Option Addr × Nat) × List (List Cr) => OKB g.1 (canF d g.2).cross.length ∧ IsCan d g.2) (fun g => .tuple #[diaV g.1.1 g.1.2 (canF d g.2), iv 0]) (fun g => [ownD g.1 (canF d g.2)]) := by
  obtain ⟨hS, hPl⟩ := checkI_ok.1 hc
  have h200 := hS.1
  have hlo := hS.2.1
  have hlo2 := hS.2.2.1
  refine fn_of_run (S := Nil) (args := [diaV base cap d]) (n := 121) (L := []) Tryz.func15 rfl Tryz.ntmps15 (Nat.le_of_ble_eq_true rfl) (Sym.nil _ _) ?_
  change RunC _ _ _ [(0, _)] _
  refine RunC.seq ?_
  refine RunC.region ?_
  refine RunL.grows rfl rfl rfl (Grows.box rfl rfl) (fun b1 _ => ?_)
  refine RunL.grows rfl rfl rfl (Grows.alloc rfl Tryz.zeroValue24) (fun b2 _ => ?_)
  refine RunL.still rfl rfl rfl (Still.assign rfl rfl) ?_
  refine RunL.nil ?_
  refine Ends.then ?_
  refine RunC.seq ?_
  refine RunC.region ?_
  refine RunL.still rfl rfl rfl (Still.loads rfl rfl Tryz.isAgg24 Tryz.sizeOf24 (vs := [_, _]) rfl (fun _ hs => cells_nth (hs.at (i := 1) rfl) ⟨rfl, ⟨rfl, trivial⟩⟩)) ?_
  refine RunL.grows rfl rfl rfl (Grows.call (vs := #[_]) rfl rfl Tryz.call31 (fun w hs => dg_enter_ok base A cap d w (hd.sym hs) hc)) (fun ⟨eb, av⟩ hav => ?_)
  refine RunL.still rfl rfl rfl (Still.move rfl rfl) ?_
  refine RunL.still rfl rfl rfl (Still.extractN rfl rfl rfl) ?_
  refine RunL.still rfl rfl rfl (Still.extractN rfl rfl rfl) ?_
  refine RunL.still rfl rfl rfl (Still.assign rfl rfl) ?_
  refine RunL.still rfl rfl rfl (Still.assign rfl rfl) ?_
  refine RunL.nil ?_
  refine Ends.then ?_
  refine RunC.seq ?_
  refine RunC.seq ?_
  refine RunC.region ?_
  refine RunL.still rfl rfl rfl (Still.move rfl rfl) ?_
  refine RunL.still rfl rfl rfl (Still.neq rfl rfl rfl) ?_
  refine RunL.nil ?_
  refine Ends.then ?_
  refine RunC.cond rfl (fun h25 => ?_) (fun h25 => ?_)
  · have h25 := of_decide_eq_true h25
    exact absurd rfl h25
  · have h25 := of_decide_eq_false h25
    refine RunC.skip ?_
    refine Ends.then ?_
    refine RunC.seq ?_
    refine RunC.region ?_
    refine RunL.still rfl rfl rfl (Still.move rfl rfl) ?_
    refine RunL.grows rfl rfl rfl (Grows.call (vs := #[_]) rfl rfl Tryz.call46 (fun w hs => dg_pieces eb base A cap d av w (DgAt.of_own (hd.sym hs) (hs.at (i := 0) rfl) (hs.own (i := 1) rfl)) hS)) (fun ⟨pv, os, n⟩ ⟨hpv, hP, hn, hfull⟩ => ?_)
    have hn : n ≤ d.cross.length := hn
    have hP : PInv d os n := hP
    have hfull : ∀ c, c < d.cross.length → ∃ x, os[c]? = some x ∧ 0 ≤ x := hfull
    refine RunL.still rfl rfl rfl (Still.move rfl rfl) ?_
    refine RunL.still rfl rfl rfl (Still.extractN rfl rfl rfl) ?_
    refine RunL.still rfl rfl rfl (Still.extractN rfl rfl rfl) ?_
    refine RunL.still rfl rfl rfl (Still.assign rfl rfl) ?_
    refine RunL.still rfl rfl rfl (Still.assign rfl rfl) ?_
    refine RunL.nil ?_
    refine Ends.then ?_
    refine RunC.seq ?_
    refine RunC.region ?_
    refine RunL.still rfl rfl rfl (Still.move rfl rfl) ?_
    refine RunL.grows rfl rfl rfl (Grows.make (n := n) (xs := ((List.replicate n none).map cellV)) rfl rfl rfl Tryz.underlying82 (by kernel_rfl : (_ : Option _) = some (some (.slice none 0 0), 1, 24)) rfl (by omega) (by omega) ((zeros_one _ _).trans (by simp [cellV]))) (fun b34 _ => ?_)
    refine RunL.still rfl rfl rfl (Still.assign rfl rfl) ?_
    refine RunL.nil ?_
    refine Ends.then ?_
    refine RunC.seq ?_
    refine RunC.seq ?_
    refine RunC.conv (fun _ hs => hs.rows_nil rowHL) ?_
    refine RunC.region ?_
    refine RunL.still rfl rfl rfl (Still.move rfl rfl) ?_
    refine RunL.still rfl rfl rfl (Still.lenOwn rfl rfl Tryz.underlying36 (fun _ hs => hs.own (i := 2) rfl)) ?_
    refine RunL.still rfl rfl rfl (Still.move rfl rfl) ?_
    refine RunL.nil ?_
    refine Ends.then ?_
    refine RunC.block ?_
    refine RunC.loop2 (γ := List (Option PC) × List PC × Nat) (keep := [(2, _), (4, _), (8, _), (35, _), (36, _)]) (hkeep := [_, _, _, _, _]) (fun (cs, az, c) => c ≤ d.cross.length ∧ CanI d os n cs az (2 * c) ∧ ∀ a ∈ az, a.2.length ≤ 200) (fun (cs, az, c) => d.cross.length - c) (fun (cs, az, c) => [(37, iv c)]) (fun (cs, az, c) => [HL.own 83 1 (.slice (some ⟨b34, 0, none⟩) n n) n (cs.map cellV), HL.rows rowHL az]) (List.replicate n none, [], 0) ⟨Nat.zero_le _, CanI.zero d os n, fun a h => by cases h⟩ (Fr.Sub.cons rfl (Fr.Sub.nil _)) (Fr.Sub.cons rfl (Fr.Sub.cons rfl (Fr.Sub.cons rfl (Fr.Sub.cons rfl (Fr.Sub.cons rfl (Fr.Sub.nil _)))))) (HSub.pick 1 rfl (HSub.pick 0 rfl (HSub.pick 0 rfl (HSub.pick 0 rfl (HSub.pick 0 rfl (HSub.pick 0 rfl (HSub.pick 0 rfl (HSub.nil _)))))))) ?_
    rintro ⟨cs, az, c⟩ ⟨hcl, hI, has⟩
    have hcl : c ≤ d.cross.length := hcl
    have hI : CanI d os n cs az (2 * c) := hI
    refine RunC.seq ?_
    refine RunC.region ?_
    refine RunL.still rfl rfl rfl (Still.lss rfl rfl rfl) ?_
    refine RunL.nil ?_
    refine Ends.then ?_
    refine RunC.seq ?_
    refine RunC.cond rfl (fun h38 => ?_) (fun h38 => ?_)
    · have h38 := of_decide_eq_true h38
      have hcN : c < d.cross.length := by omega
      obtain ⟨x, hx, hx0⟩ := hfull c hcN
      obtain ⟨k, rfl⟩ : ∃ k : Nat, x = (k : Int) := ⟨x.toNat, by omega⟩
      have hkn : k < n := by have := (hP.lo c _ hx).2; omega
      refine RunC.skip ?_
      refine Ends.then ?_
      refine RunC.seq ?_
      refine RunC.block ?_
      refine RunC.seq ?_
      refine RunC.region ?_
      refine RunL.still rfl rfl rfl (Still.move rfl rfl) ?_
      refine RunL.still rfl rfl rfl (Still.indexOwn rfl rfl rfl Tryz.underlying36 Tryz.sizeOf3 (fun _ hs => hs.own (i := 2) rfl) (by omega)) ?_
      refine RunL.still rfl rfl rfl (Still.load rfl rfl Tryz.isAgg3 (fun w hs => own_at (hs.own (i := 2) rfl) (ints_get hx))) ?_
      refine RunL.still rfl rfl rfl (Still.assign rfl rfl) ?_
      refine RunL.still rfl rfl rfl (Still.assign rfl rfl) ?_
      refine RunL.nil ?_
      refine Ends.then ?_
      refine RunC.seq ?_
      refine RunC.region ?_
      refine RunL.still rfl rfl rfl (Still.move rfl rfl) ?_
      refine RunL.nil ?_
      refine Ends.then ?_
      refine RunC.block ?_
      refine RunC.loop2 (γ := List (Option PC) × List PC × Nat) (keep := [(2, _), (4, _), (8, _), (9, _), (10, _), (35, _), (36, _), (37, _)]) (hkeep := [_, _, _, _, _]) (fun (cs, az, v) => v ≤ 2 ∧ CanI d os n cs az (2 * c + v) ∧ ∀ a ∈ az, a.2.length ≤ 200) (fun (cs, az, v) => 2 - v) (fun (cs, az, v) => [(42, iv v)]) (fun (cs, az, v) => [HL.own 83 1 (.slice (some ⟨b34, 0, none⟩) n n) n (cs.map cellV), HL.rows rowHL az]) (cs, az, 0) ⟨Nat.zero_le _, hI, has⟩ (Fr.Sub.cons rfl (Fr.Sub.nil _)) (Fr.Sub.cons rfl (Fr.Sub.cons rfl (Fr.Sub.cons rfl (Fr.Sub.cons rfl (Fr.Sub.cons rfl (Fr.Sub.cons rfl (Fr.Sub.cons rfl (Fr.Sub.cons rfl (Fr.Sub.nil _))))))))) (HSub.pick 0 rfl (HSub.pick 0 rfl (HSub.pick 0 rfl (HSub.pick 0 rfl (HSub.pick 0 rfl (HSub.pick 0 rfl (HSub.pick 0 rfl (HSub.nil _)))))))) ?_
      rintro ⟨cs, az, v⟩ ⟨hv2, hI, has⟩
      have hv2 : v ≤ 2 := hv2
      have hI : CanI d os n cs az (2 * c + v) := hI
      obtain ⟨b, hb⟩ := get_of_lt (l := cs) (i := k) (by rw [hI.len]; exact hkn)
      refine RunC.seq ?_
      refine RunC.region ?_
      refine RunL.still rfl rfl rfl (Still.lss rfl rfl rfl) ?_
      refine RunL.nil ?_
      refine Ends.then ?_
      refine RunC.seq ?_
      refine RunC.cond rfl (fun h43 => ?_) (fun h43 => ?_)
      · have h43 := of_decide_eq_true h43
        have hcv : (2 * c + v) / 2 = c := by omega
        have hcm : (2 * c + v) % 2 = v := by omega
        refine RunC.skip ?_
        refine Ends.then ?_
        refine RunC.seq ?_
        refine RunC.block ?_
        refine RunC.seq ?_
        refine RunC.region ?_
        refine RunL.still rfl rfl rfl (Still.move rfl rfl) ?_
        refine RunL.still rfl rfl rfl (Still.assign rfl rfl) ?_
        refine RunL.nil ?_
        refine Ends.then ?_
        refine RunC.seq ?_
        refine RunC.region ?_
        refine RunL.still rfl rfl rfl (Still.move rfl rfl) ?_
        refine RunL.still rfl rfl rfl (Still.move rfl rfl) ?_
        refine RunL.still rfl rfl rfl (Still.move rfl rfl) ?_
        refine RunL.grows rfl rfl rfl (Grows.call (vs := #[_, _, _]) rfl rfl Tryz.call47 (fun w hs => z_code eb base A cap d av c v w (DgAt.of_own (hd.sym hs) (hs.at (i := 3) rfl) (hs.own (i := 4) rfl)) hS hcN)) (fun v48 _ => ?_)
        refine RunL.know (fun _ hs => own_open (hs.own (i := 0) rfl) (codeOf_pos hS hcN v)) (fun hop => ?_)
        obtain ⟨ng, nc, hv48, _⟩ := hop
        refine RunL.still rfl rfl rfl (Still.assign rfl rfl) ?_
        refine RunL.conv (fun _ hs => Sym.rows_push (mk := rowHL) (a := (v48, codeOf d c v)) (hs.sub (HSub.pick 0 rfl (HSub.pick 1 rfl (HSub.pick 0 rfl (HSub.pick 0 rfl (HSub.pick 0 rfl (HSub.pick 0 rfl (HSub.pick 0 rfl (HSub.pick 0 rfl (HSub.nil _))))))))))) ?_
        refine RunL.nil ?_
        refine Ends.then ?_
        refine RunC.seq ?_
        refine RunC.region ?_
        by_cases hbn : b = none
        · subst hbn
          refine RunL.still rfl rfl rfl (Still.move rfl rfl) ?_
          refine RunL.still rfl rfl rfl (Still.move rfl rfl) ?_
          refine RunL.still rfl rfl rfl (Still.indexOwn rfl rfl rfl Tryz.underlying82 Tryz.sizeOf83 (fun _ hs => hs.own (i := 1) rfl) (by omega)) ?_
          refine RunL.still rfl rfl rfl (Still.load rfl rfl Tryz.isAgg83 (fun w hs => own_at (hs.own (i := 1) rfl) ((by rw [Nat.mul_one]; exact cellV_get hb)))) ?_
          refine RunL.still rfl rfl rfl (Still.eqlNil rfl rfl rfl Tryz.underlying83) ?_
          refine RunL.again (t := 53) (u := .bool true) rfl (rfl) ?_
          refine RunL.still rfl rfl rfl (Still.move rfl rfl) ?_
          refine RunL.off rfl rfl rfl ?_
          refine RunL.off rfl rfl rfl ?_
          refine RunL.off rfl rfl rfl ?_
          refine RunL.off rfl rfl rfl ?_
          refine RunL.off rfl rfl rfl ?_
          refine RunL.off rfl rfl rfl ?_
          refine RunL.off rfl rfl rfl ?_
          refine RunL.still rfl rfl rfl (Still.pickT rfl rfl rfl) ?_
          refine RunL.nil ?_
          refine Ends.then ?_
          refine RunC.cond_true rfl ?_
          refine RunC.region ?_
          refine RunL.still rfl rfl rfl (Still.move rfl rfl) ?_
          refine RunL.still rfl rfl rfl (Still.move rfl rfl) ?_
          refine RunL.still rfl rfl rfl (Still.move rfl rfl) ?_
          refine RunL.still rfl rfl rfl (Still.indexOwn rfl rfl rfl Tryz.underlying82 Tryz.sizeOf83 (fun _ hs => hs.own (i := 1) rfl) (by omega)) ?_
          refine RunL.does0 rfl rfl (Does.storeOwn1 (xs' := ((cs.set k (some (v48, codeOf d c v))).map cellV)) rfl rfl rfl rfl (i := 1) rfl Tryz.sizeOf83 (by rw [hv48]; rfl) (by rw [List.length_map, hI.len]; omega) ((by rw [Nat.mul_one]; exact cellV_set cs k (v48, codeOf d c v)))) (fun _ _ => ?_)
          refine RunL.nil ?_
          refine Ends.block ?_
          refine Ends.then ?_
          refine RunC.region ?_
          refine RunL.still rfl rfl rfl (Still.add rfl rfl rfl (fits64 (by omega) (by omega))) ?_
          refine RunL.still rfl rfl rfl (Still.move rfl rfl) ?_
          refine RunL.nil ?_
          refine Ends.again (cs.set k (some (v48, codeOf d c v)), az ++ [(v48, codeOf d c v)], v + 1) ?_ ?_ (Fr.Sub.app ?_ ?_) ?_
          · exact ⟨by show v + 1 ≤ 2; omega, hI.put (by rw [hcv]; exact hx) hb (by rw [hcv, hcm]) ⟨ng, nc, hv48⟩ (fun a0 e => by cases e), fun a ha => (List.mem_append.1 ha).elim (has a) (fun e => by rw [List.mem_singleton.1 e]; show (codeOf d c v).length ≤ 200; have := codeOf_le hS hcN v; omega)⟩
          · show 2 - (v + 1) < 2 - v; omega
          · exact Fr.Sub.cons rfl (Fr.Sub.nil _)
          · exact Fr.Sub.cons rfl (Fr.Sub.cons rfl (Fr.Sub.cons rfl (Fr.Sub.cons rfl (Fr.Sub.cons rfl (Fr.Sub.cons rfl (Fr.Sub.cons rfl (Fr.Sub.cons rfl (Fr.Sub.nil _))))))))
          · exact HSub.pick 1 rfl (HSub.pick 0 rfl (HSub.pick 0 rfl (HSub.pick 0 rfl (HSub.pick 0 rfl (HSub.pick 0 rfl (HSub.pick 0 rfl (HSub.nil _)))))))
        · obtain ⟨⟨av1, am⟩, rfl⟩ : ∃ a, b = some a := Option.ne_none_iff_exists'.1 hbn
          obtain ⟨og, oc, hav1⟩ := hI.sl _ (hI.mem k _ hb)
          simp only at hav1
          subst hav1
          have haml : am.length ≤ d.cross.length := (hI.best k _ hb).len hS (by omega)
          obtain ⟨jo, hjo⟩ := snoc_old (b := (v48, codeOf d c v)) (hI.mem k _ hb)
          refine RunL.still rfl rfl rfl (Still.move rfl rfl) ?_
          refine RunL.still rfl rfl rfl (Still.move rfl rfl) ?_
          refine RunL.still rfl rfl rfl (Still.indexOwn rfl rfl rfl Tryz.underlying82 Tryz.sizeOf83 (fun _ hs => hs.own (i := 1) rfl) (by omega)) ?_
          refine RunL.still rfl rfl rfl (Still.load rfl rfl Tryz.isAgg83 (fun w hs => own_at (hs.own (i := 1) rfl) ((by rw [Nat.mul_one]; exact cellV_get hb)))) ?_
          refine RunL.still rfl rfl rfl (Still.eqlNil rfl rfl rfl Tryz.underlying83) ?_
          refine RunL.again (t := 53) (u := .bool false) rfl (rfl) ?_
          refine RunL.still rfl rfl rfl (Still.move rfl rfl) ?_
          refine RunL.still rfl rfl rfl (Still.move rfl rfl) ?_
          refine RunL.still rfl rfl rfl (Still.move rfl rfl) ?_
          refine RunL.still rfl rfl rfl (Still.move rfl rfl) ?_
          refine RunL.still rfl rfl rfl (Still.indexOwn rfl rfl rfl Tryz.underlying82 Tryz.sizeOf83 (fun _ hs => hs.own (i := 1) rfl) (by omega)) ?_
          refine RunL.still rfl rfl rfl (Still.load rfl rfl Tryz.isAgg83 (fun w hs => own_at (hs.own (i := 1) rfl) ((by rw [Nat.mul_one]; exact cellV_get hb)))) ?_
          refine RunL.grows rfl rfl rfl (Grows.call (vs := #[_, _]) rfl rfl Tryz.call48 (fun w hs => z_compared v48 (.slice (some ⟨og, 0, none⟩) am.length oc) (codeOf d c v) am w (own_shape (rows_get (hs.at (i := 0) rfl) (snoc_new az _))) (own_shape (rows_get (hs.at (i := 0) rfl) hjo)) (by have := codeOf_le hS hcN v; omega) (by omega) (own_all (rows_get (hs.at (i := 0) rfl) (snoc_new az _))) (own_all (rows_get (hs.at (i := 0) rfl) hjo)))) (fun _ _ => ?_)
          refine RunL.still rfl rfl rfl (Still.lss rfl rfl rfl) ?_
          refine RunL.still rfl rfl rfl (Still.pickF rfl rfl rfl) ?_
          refine RunL.nil ?_
          refine Ends.then ?_
          refine RunC.cond rfl (fun h62 => ?_) (fun h62 => ?_)
          · have h62 := of_decide_eq_true h62
            refine RunC.region ?_
            refine RunL.still rfl rfl rfl (Still.move rfl rfl) ?_
            refine RunL.still rfl rfl rfl (Still.move rfl rfl) ?_
            refine RunL.still rfl rfl rfl (Still.move rfl rfl) ?_
            refine RunL.still rfl rfl rfl (Still.indexOwn rfl rfl rfl Tryz.underlying82 Tryz.sizeOf83 (fun _ hs => hs.own (i := 1) rfl) (by omega)) ?_
            refine RunL.does0 rfl rfl (Does.storeOwn1 (xs' := ((cs.set k (some (v48, codeOf d c v))).map cellV)) rfl rfl rfl rfl (i := 1) rfl Tryz.sizeOf83 (by rw [hv48]; rfl) (by rw [List.length_map, hI.len]; omega) ((by rw [Nat.mul_one]; exact cellV_set cs k (v48, codeOf d c v)))) (fun _ _ => ?_)
            refine RunL.nil ?_
            refine Ends.block ?_
            refine Ends.then ?_
            refine RunC.region ?_
            refine RunL.still rfl rfl rfl (Still.add rfl rfl rfl (fits64 (by omega) (by omega))) ?_
            refine RunL.still rfl rfl rfl (Still.move rfl rfl) ?_
            refine RunL.nil ?_
            refine Ends.again (cs.set k (some (v48, codeOf d c v)), az ++ [(v48, codeOf d c v)], v + 1) ?_ ?_ (Fr.Sub.app ?_ ?_) ?_
            · exact ⟨by show v + 1 ≤ 2; omega, hI.put (by rw [hcv]; exact hx) hb (by rw [hcv, hcm]) ⟨ng, nc, hv48⟩ (fun a0 e => by cases e; exact (cmpC_lt _ _).1 h62), fun a ha => (List.mem_append.1 ha).elim (has a) (fun e => by rw [List.mem_singleton.1 e]; show (codeOf d c v).length ≤ 200; have := codeOf_le hS hcN v; omega)⟩
            · show 2 - (v + 1) < 2 - v; omega
            · exact Fr.Sub.cons rfl (Fr.Sub.nil _)
            · exact Fr.Sub.cons rfl (Fr.Sub.cons rfl (Fr.Sub.cons rfl (Fr.Sub.cons rfl (Fr.Sub.cons rfl (Fr.Sub.cons rfl (Fr.Sub.cons rfl (Fr.Sub.cons rfl (Fr.Sub.nil _))))))))
            · exact HSub.pick 1 rfl (HSub.pick 0 rfl (HSub.pick 0 rfl (HSub.pick 0 rfl (HSub.pick 0 rfl (HSub.pick 0 rfl (HSub.pick 0 rfl (HSub.nil _)))))))
          · have h62 := of_decide_eq_false h62
            refine RunC.skip ?_
            refine Ends.block ?_
            refine Ends.then ?_
            refine RunC.region ?_
            refine RunL.still rfl rfl rfl (Still.add rfl rfl rfl (fits64 (by omega) (by omega))) ?_
            refine RunL.still rfl rfl rfl (Still.move rfl rfl) ?_
            refine RunL.nil ?_
            refine Ends.again (cs, az ++ [(v48, codeOf d c v)], v + 1) ?_ ?_ (Fr.Sub.app ?_ ?_) ?_
            · exact ⟨by show v + 1 ≤ 2; omega, hI.keep (by rw [hcv]; exact hx) hb (by rw [hcv, hcm]) ⟨ng, nc, hv48⟩ (fun k1 => h62 ((cmpC_lt _ _).2 k1)), fun a ha => (List.mem_append.1 ha).elim (has a) (fun e => by rw [List.mem_singleton.1 e]; show (codeOf d c v).length ≤ 200; have := codeOf_le hS hcN v; omega)⟩
            · show 2 - (v + 1) < 2 - v; omega
            · exact Fr.Sub.cons rfl (Fr.Sub.nil _)
            · exact Fr.Sub.cons rfl (Fr.Sub.cons rfl (Fr.Sub.cons rfl (Fr.Sub.cons rfl (Fr.Sub.cons rfl (Fr.Sub.cons rfl (Fr.Sub.cons rfl (Fr.Sub.cons rfl (Fr.Sub.nil _))))))))
            · exact HSub.pick 1 rfl (HSub.pick 0 rfl (HSub.pick 0 rfl (HSub.pick 0 rfl (HSub.pick 0 rfl (HSub.pick 0 rfl (HSub.pick 0 rfl (HSub.nil _)))))))
      · have h43 := of_decide_eq_false h43
        obtain rfl : v = 2 := by omega
        refine RunC.exit ?_
        refine Ends.then_exit ?_
        refine Ends.then_exit ?_
        refine Ends.block_exit ?_
        refine Ends.block ?_
        refine Ends.then ?_
        refine RunC.region ?_
        refine RunL.still rfl rfl rfl (Still.add rfl rfl rfl (fits64 (by omega) (by omega))) ?_
        refine RunL.still rfl rfl rfl (Still.move rfl rfl) ?_
        refine RunL.nil ?_
        refine Ends.again (cs, az, c + 1) ?_ ?_ (Fr.Sub.app ?_ ?_) ?_
        · exact ⟨by show c + 1 ≤ _; omega, hI, has⟩
        · show _ - (c + 1) < _ - c; omega
        · exact Fr.Sub.cons rfl (Fr.Sub.nil _)
        · exact Fr.Sub.cons rfl (Fr.Sub.cons rfl (Fr.Sub.cons rfl (Fr.Sub.cons rfl (Fr.Sub.cons rfl (Fr.Sub.nil _)))))
        · exact HSub.pick 0 rfl (HSub.pick 0 rfl (HSub.pick 0 rfl (HSub.pick 0 rfl (HSub.pick 0 rfl (HSub.pick 0 rfl (HSub.pick 0 rfl (HSub.nil _)))))))
    · have h38 := of_decide_eq_false h38
      obtain rfl : c = d.cross.length := by omega
      obtain ⟨bs, rfl, hbs, rs, hRS, hrs⟩ := hI.done hS hP hfull
      refine RunC.exit ?_
      refine Ends.then_exit ?_
      refine Ends.then_exit ?_
      refine Ends.block_exit ?_
      refine Ends.then ?_
      refine RunC.seq ?_
      refine RunC.region ?_
      refine RunL.still rfl rfl rfl (Still.move rfl rfl) ?_
      refine RunL.does rfl rfl rfl (Does.call (vs := #[_, _]) (K := [_]) (R := [_, _, _, _, _, _]) (S' := _) rfl rfl Tryz.call49 (HSub.pick 0 rfl (HSub.pick 0 rfl (HSub.pick 0 rfl (HSub.pick 0 rfl (HSub.pick 0 rfl (HSub.pick 0 rfl (HSub.pick 0 rfl (HSub.nil _)))))))) (fun c h => h) (fun w hs => z_Sort b34 n bs az hbs (by rw [← hI.len, List.length_map]) (by omega) has w hs.left.hand (fun W ho => rows_keep (R := _) hs (i := 1 - 1) rfl ho))) (fun bs2 ⟨hp, hso⟩ => ?_)
      refine RunL.nil ?_
      refine Ends.then ?_
      refine RunC.seq ?_
      refine RunC.region ?_
      refine RunL.still rfl rfl rfl (Still.move rfl rfl) ?_
      refine RunL.still rfl rfl rfl (Still.nilCheck rfl rfl) ?_
      refine RunL.still rfl rfl rfl (Still.fieldAddrA (off := 0) rfl rfl Tryz.underlying89 rfl Tryz.sizeOf24 rfl) ?_
      refine RunL.still rfl rfl rfl (Still.fieldAddrA (off := 1) rfl rfl Tryz.underlying24 rfl Tryz.sizeOf3 rfl) ?_
      refine RunL.still rfl rfl rfl (Still.load (v := iv d.loops) rfl rfl Tryz.isAgg3 (fun _ hs => ((DgAt.of_own (hd.sym hs) (hs.at (i := 3) rfl) (hs.own (i := 4) rfl))).c1)) ?_
      refine RunL.still rfl rfl rfl (Still.build_1 (fun x0_0 => .agg #[.slice none 0 0, x0_0]) rfl rfl (fun _ => by kernel_rfl)) ?_
      refine RunL.grows rfl rfl rfl (Grows.alloc rfl Tryz.zeroValue24) (fun b13 _ => ?_)
      refine RunL.does0 rfl rfl (Does.store rfl rfl rfl (i := 0) rfl Tryz.sizeOf24 rfl (rfl) rfl) (fun _ _ => ?_)
      refine RunL.conv (fun _ hs => hs.re 0 rfl (show _ = HL.obj b13 (.cells #[.slice none 0 0, iv d.loops] 24 (0, 0)) from rfl)) ?_
      refine RunL.nil ?_
      refine Ends.then ?_
      refine RunC.seq ?_
      refine RunC.seq ?_
      refine RunC.own_nil 62 5 ?_
      refine RunC.region ?_
      have hcan := sorted_can hRS hrs hp hso
      have hbl : bs2.length = n := by rw [hp.length_eq, ← hI.len, List.length_map]
      have htot := dg_Canonical_hd hS hcan
      have hFl : ∀ i, (flatTo bs2 i).length ≤ 200 := fun i => by have := flatTo_le bs2 i; omega
      refine RunL.still rfl rfl rfl (Still.move rfl rfl) ?_
      refine RunL.still rfl rfl rfl (Still.lenOwn rfl rfl Tryz.underlying82 (fun _ hs => hs.own (i := 2) rfl)) ?_
      refine RunL.still rfl rfl rfl (Still.move rfl rfl) ?_
      refine RunL.nil ?_
      refine Ends.then ?_
      refine RunC.block ?_
      refine RunC.loop2 (γ := Value × Nat) (keep := [(2, _), (13, _), (77, _), (78, _)]) (hkeep := [_, _, _, _, _, _, _]) (fun (x, i) => i ≤ n) (fun (x, i) => n - i) (fun (x, i) => [(79, iv i)]) (fun (x, i) => [HL.obj b13 (.cells #[x, iv d.loops] 24 (0, 0)), HL.own 62 5 x (flatTo bs2 i).length ((flatTo bs2 i).flatMap encCr)]) (.slice none 0 0, 0) (Nat.zero_le _) (Fr.Sub.cons rfl (Fr.Sub.nil _)) (Fr.Sub.cons rfl (Fr.Sub.cons rfl (Fr.Sub.cons rfl (Fr.Sub.cons rfl (Fr.Sub.nil _))))) (HSub.pick 1 rfl (HSub.pick 0 (by rw [flatTo_zero]; rfl) (HSub.pick 0 rfl (HSub.pick 0 rfl (HSub.pick 0 rfl (HSub.pick 0 rfl (HSub.pick 0 rfl (HSub.pick 0 rfl (HSub.pick 0 rfl (HSub.nil _)))))))))) ?_
      rintro ⟨x, i⟩ hi
      have hi : i ≤ n := hi
      refine RunC.seq ?_
      refine RunC.region ?_
      refine RunL.still rfl rfl rfl (Still.lss rfl rfl rfl) ?_
      refine RunL.nil ?_
      refine Ends.then ?_
      refine RunC.seq ?_
      refine RunC.cond rfl (fun h80 => ?_) (fun h80 => ?_)
      · have h80 := of_decide_eq_true h80
        obtain ⟨a, ha⟩ := get_of_lt (l := bs2) (i := i) (by omega)
        have haA := hbs a (hp.mem_iff.1 (List.mem_of_getElem? ha))
        obtain ⟨ja, hja⟩ := List.getElem?_of_mem haA
        obtain ⟨cw, way, hcw, hcode⟩ := sorted_code hS hRS hrs hp a (List.mem_of_getElem? ha)
        have hal : a.2.length ≤ 200 := has a haA
        have hFi := hFl i
        obtain ⟨sg, sc, hsl⟩ := hI.sl a haA
        have hash : Shape a.1 a.2.length := ⟨_, _, hsl, fun _ => by rw [hsl]; rfl⟩
        refine RunC.skip ?_
        refine Ends.then ?_
        refine RunC.seq ?_
        refine RunC.block ?_
        refine RunC.seq ?_
        refine RunC.region ?_
        refine RunL.still rfl rfl rfl (Still.indexOwn rfl rfl rfl Tryz.underlying82 Tryz.sizeOf83 (fun _ hs => hs.own (i := 2) rfl) (by omega)) ?_
        refine RunL.still rfl rfl rfl (Still.load rfl rfl Tryz.isAgg83 (fun w hs => own_at (hs.own (i := 2) rfl) ((by rw [Nat.mul_one, List.getElem?_map, ha]; rfl)))) ?_
        refine RunL.still rfl rfl rfl (Still.assign rfl rfl) ?_
        refine RunL.nil ?_
        refine Ends.then ?_
        refine RunC.seq ?_
        refine RunC.region ?_
        refine RunL.still rfl rfl rfl (Still.fieldAddrL (off := 0) (off' := 0) rfl rfl Tryz.underlying24 rfl Tryz.sizeOf22 rfl) ?_
        refine RunL.still rfl rfl rfl (Still.load rfl rfl Tryz.isAgg22 (fun _ hs => cell_nth (hs.at (i := 0) rfl) rfl)) ?_
        refine RunL.still rfl rfl rfl (Still.lenOwn rfl rfl Tryz.underlying22 (fun _ hs => hs.own (i := 1) rfl)) ?_
        refine RunL.still rfl rfl rfl (Still.mul rfl rfl rfl (fits64 (by omega) (by omega))) ?_
        refine RunL.still rfl rfl rfl (Still.assign rfl rfl) ?_
        refine RunL.nil ?_
        refine Ends.then ?_
        refine RunC.seq ?_
        refine RunC.region ?_
        refine RunL.still rfl rfl rfl (Still.move rfl rfl) ?_
        refine RunL.still rfl rfl rfl (Still.lenV rfl rfl Tryz.underlying83 (hash)) ?_
        refine RunL.still rfl rfl rfl (Still.move rfl rfl) ?_
        refine RunL.nil ?_
        refine Ends.then ?_
        refine RunC.block ?_
        refine RunC.loop2 (γ := Value × Nat) (keep := [(2, _), (13, _), (16, _), (77, _), (78, _), (79, _), (87, _), (88, _)]) (hkeep := [_, _, _, _, _, _, _]) (fun (y4, j) => j ≤ a.2.length) (fun (y4, j) => a.2.length - j) (fun (y4, j) => [(89, iv j)]) (fun (y4, j) => [HL.obj b13 (.cells #[y4, iv d.loops] 24 (0, 0)), HL.own 62 5 y4 (flatTo bs2 i ++ (a.2.take j).map (shCr (2 * (flatTo bs2 i).length : Nat))).length ((flatTo bs2 i ++ (a.2.take j).map (shCr (2 * (flatTo bs2 i).length : Nat))).flatMap encCr)]) (x, 0) (Nat.zero_le _) (Fr.Sub.cons rfl (Fr.Sub.nil _)) (Fr.Sub.cons rfl (Fr.Sub.cons rfl (Fr.Sub.cons rfl (Fr.Sub.cons rfl (Fr.Sub.cons rfl (Fr.Sub.cons rfl (Fr.Sub.cons rfl (Fr.Sub.cons rfl (Fr.Sub.nil _))))))))) (HSub.pick 0 rfl (HSub.pick 0 (by simp) (HSub.pick 0 rfl (HSub.pick 0 rfl (HSub.pick 0 rfl (HSub.pick 0 rfl (HSub.pick 0 rfl (HSub.pick 0 rfl (HSub.pick 0 rfl (HSub.nil _)))))))))) ?_
        rintro ⟨y4, j⟩ hj
        have hj : j ≤ a.2.length := hj
        refine RunC.seq ?_
        refine RunC.region ?_
        refine RunL.still rfl rfl rfl (Still.lss rfl rfl rfl) ?_
        refine RunL.nil ?_
        refine Ends.then ?_
        refine RunC.seq ?_
        refine RunC.cond rfl (fun h90 => ?_) (fun h90 => ?_)
        · have h90 := of_decide_eq_true h90
          obtain ⟨y, hy⟩ := get_of_lt (l := a.2) (i := j) (by omega)
          have hya := codeOf_arc hS hcw (way := way) (y := y) (by rw [← hcode]; exact List.mem_of_getElem? hy)
          have y0 := hya 0 (by decide); have y1 := hya 1 (by decide); have y2 := hya 2 (by decide); have y3 := hya 3 (by decide)
          simp only [Cr.arc] at y0 y1 y2 y3
          have hFi := hFl i
          refine RunC.skip ?_
          refine Ends.then ?_
          refine RunC.seq ?_
          refine RunC.block ?_
          refine RunC.seq ?_
          refine RunC.region ?_
          refine RunL.still rfl rfl rfl (Still.indexV _ rfl rfl rfl Tryz.underlying83 Tryz.sizeOf91 (hash) (rfl) (by omega)) ?_
          refine RunL.still rfl rfl rfl (Still.loads rfl rfl Tryz.isAgg91 Tryz.sizeOf91 (vs := encCr y) rfl (fun _ hs => cells_part (own_all (rows_get (hs.at (i := 3) rfl) hja)) (fun j u h => flat_get encCr_len hy h))) ?_
          refine RunL.grows rfl rfl rfl (Grows.alloc rfl Tryz.zeroValue91) (fun b18 _ => ?_)
          refine RunL.does0 rfl rfl (Does.store rfl rfl rfl (i := 0) rfl Tryz.sizeOf91 rfl (rfl) rfl) (fun _ _ => ?_)
          refine RunL.conv (fun _ hs => hs.re 0 rfl (show _ = HL.obj b18 (.cells #[iv y.a0, iv y.a1, iv y.a2, iv y.a3, iv y.s] 91 (0, 0)) from rfl)) ?_
          refine RunL.nil ?_
          refine Ends.then ?_
          refine RunC.region ?_
          refine RunL.still rfl rfl rfl (Still.fieldAddrL (off := 0) (off' := 0) rfl rfl Tryz.underlying24 rfl Tryz.sizeOf22 rfl) ?_
          refine RunL.still rfl rfl rfl (Still.load rfl rfl Tryz.isAgg22 (fun _ hs => cell_nth (hs.at (i := 1) rfl) rfl)) ?_
          refine RunL.still rfl rfl rfl (Still.indexArrEL 0 rfl rfl rfl Tryz.underlying91 Tryz.sizeOf3 (rfl) (by omega)) ?_
          refine RunL.still rfl rfl rfl (Still.load (v := iv y.a0) rfl rfl Tryz.isAgg3 (fun _ hs => cell_nth (hs.at (i := 0) rfl) rfl)) ?_
          refine RunL.still rfl rfl rfl (Still.move rfl rfl) ?_
          refine RunL.still rfl rfl rfl (Still.add rfl rfl rfl (fits64 (by omega) (by omega))) ?_
          refine RunL.still rfl rfl rfl (Still.indexArrEL 1 rfl rfl rfl Tryz.underlying91 Tryz.sizeOf3 (rfl) (by omega)) ?_
          refine RunL.still rfl rfl rfl (Still.load (v := iv y.a1) rfl rfl Tryz.isAgg3 (fun _ hs => cell_nth (hs.at (i := 0) rfl) rfl)) ?_
          refine RunL.still rfl rfl rfl (Still.move rfl rfl) ?_
          refine RunL.still rfl rfl rfl (Still.add rfl rfl rfl (fits64 (by omega) (by omega))) ?_
          refine RunL.still rfl rfl rfl (Still.indexArrEL 2 rfl rfl rfl Tryz.underlying91 Tryz.sizeOf3 (rfl) (by omega)) ?_
          refine RunL.still rfl rfl rfl (Still.load (v := iv y.a2) rfl rfl Tryz.isAgg3 (fun _ hs => cell_nth (hs.at (i := 0) rfl) rfl)) ?_
          refine RunL.still rfl rfl rfl (Still.move rfl rfl) ?_
          refine RunL.still rfl rfl rfl (Still.add rfl rfl rfl (fits64 (by omega) (by omega))) ?_
          refine RunL.still rfl rfl rfl (Still.indexArrEL 3 rfl rfl rfl Tryz.underlying91 Tryz.sizeOf3 (rfl) (by omega)) ?_
          refine RunL.still rfl rfl rfl (Still.load (v := iv y.a3) rfl rfl Tryz.isAgg3 (fun _ hs => cell_nth (hs.at (i := 0) rfl) rfl)) ?_
          refine RunL.still rfl rfl rfl (Still.move rfl rfl) ?_
          refine RunL.still rfl rfl rfl (Still.add rfl rfl rfl (fits64 (by omega) (by omega))) ?_
          refine RunL.still rfl rfl rfl (Still.build_1_1_1_1 (fun x0_0 x1_0 x2_0 x3_0 => .agg #[x0_0, x1_0, x2_0, x3_0]) rfl rfl rfl rfl rfl (fun _ => by kernel_rfl)) ?_
          refine RunL.still rfl rfl rfl (Still.indexArrEL 4 rfl rfl rfl Tryz.underlying91 Tryz.sizeOf3 (rfl) (by omega)) ?_
          refine RunL.still rfl rfl rfl (Still.load (v := iv y.s) rfl rfl Tryz.isAgg3 (fun _ hs => cell_nth (hs.at (i := 0) rfl) rfl)) ?_
          refine RunL.still rfl rfl rfl (Still.build_4_1 (fun x0_0 x0_1 x0_2 x0_3 x1_0 => .agg #[x0_0, x0_1, x0_2, x0_3, x1_0]) rfl rfl rfl (fun _ => by kernel_rfl)) ?_
          refine RunL.grows rfl rfl rfl (Grows.slice1 rfl rfl Tryz.underlying22 Tryz.sizeOf62 rfl Tryz.zeroValue62 (by decide)) (fun b115 _ => ?_)
          refine RunL.does rfl rfl rfl (Does.appendTo (n' := (flatTo bs2 i ++ (a.2.take (j + 1)).map (shCr (2 * (flatTo bs2 i).length : Nat))).length) (xs' := ((flatTo bs2 i ++ (a.2.take (j + 1)).map (shCr (2 * (flatTo bs2 i).length : Nat))).flatMap encCr)) (news := [_, _, _, _, _]) rfl rfl rfl rfl (i := 3) rfl Tryz.underlying22 (by kernel_rfl : (_ : Option _) = some (some (.agg #[.int .i64 0, .int .i64 0, .int .i64 0, .int .i64 0, .int .i64 0]), 5, 40)) rfl rfl (fun _ hs => cells_nth (hs.at (i := 0) rfl) ⟨rfl, ⟨rfl, ⟨rfl, ⟨rfl, ⟨rfl, trivial⟩⟩⟩⟩⟩) rfl rfl ((by have := hFl i; simp [List.length_append, List.length_take]; omega)) ((by have := hFl i; simp [List.length_append, List.length_take]; omega)) ((by simp [List.length_append, List.length_take]; omega)) ((flat4 _ _ hy))) (fun v116 hv116 => ?_)
          refine RunL.know (fun _ hs => own_oneCell (hs.own (i := 3) rfl)) (fun h1v => ?_)
          refine RunL.still rfl rfl rfl (Still.fieldAddrL (off := 0) (off' := 0) rfl rfl Tryz.underlying24 rfl Tryz.sizeOf22 rfl) ?_
          refine RunL.does0 rfl rfl (Does.store1 rfl rfl rfl (i := 2) rfl Tryz.sizeOf22 (h1v) (rfl)) (fun _ _ => ?_)
          refine RunL.conv (fun _ hs => hs.re 2 rfl (show _ = HL.obj b13 (.cells #[v116, iv d.loops] 24 (0, 0)) from rfl)) ?_
          refine RunL.nil ?_
          refine Ends.block ?_
          refine Ends.then ?_
          refine RunC.region ?_
          refine RunL.still rfl rfl rfl (Still.add rfl rfl rfl (fits64 (by omega) (by omega))) ?_
          refine RunL.still rfl rfl rfl (Still.move rfl rfl) ?_
          refine RunL.nil ?_
          refine Ends.again (v116, j + 1) ?_ ?_ (Fr.Sub.app ?_ ?_) ?_
          · show j + 1 ≤ _; omega
          · show _ - (j + 1) < _ - j; omega
          · exact Fr.Sub.cons rfl (Fr.Sub.nil _)
          · exact Fr.Sub.cons rfl (Fr.Sub.cons rfl (Fr.Sub.cons rfl (Fr.Sub.cons rfl (Fr.Sub.cons rfl (Fr.Sub.cons rfl (Fr.Sub.cons rfl (Fr.Sub.cons rfl (Fr.Sub.nil _))))))))
          · exact HSub.pick 2 rfl (HSub.pick 2 rfl (HSub.pick 2 rfl (HSub.pick 2 rfl (HSub.pick 2 rfl (HSub.pick 2 rfl (HSub.pick 2 rfl (HSub.pick 2 rfl (HSub.pick 2 rfl (HSub.nil _)))))))))
        · have h90 := of_decide_eq_false h90
          obtain rfl : j = a.2.length := by omega
          refine RunC.exit ?_
          refine Ends.then_exit ?_
          refine Ends.then_exit ?_
          refine Ends.block_exit ?_
          refine Ends.block ?_
          refine Ends.then ?_
          refine RunC.region ?_
          refine RunL.still rfl rfl rfl (Still.add rfl rfl rfl (fits64 (by omega) (by omega))) ?_
          refine RunL.still rfl rfl rfl (Still.move rfl rfl) ?_
          refine RunL.nil ?_
          refine Ends.again (y4, i + 1) ?_ ?_ (Fr.Sub.app ?_ ?_) ?_
          · show i + 1 ≤ _; omega
          · show _ - (i + 1) < _ - i; omega
          · exact Fr.Sub.cons rfl (Fr.Sub.nil _)
          · exact Fr.Sub.cons rfl (Fr.Sub.cons rfl (Fr.Sub.cons rfl (Fr.Sub.cons rfl (Fr.Sub.nil _))))
          · exact HSub.pick 0 rfl (HSub.pick 0 (by rw [flatTo_succ2 ha]; rfl) (HSub.pick 0 rfl (HSub.pick 0 rfl (HSub.pick 0 rfl (HSub.pick 0 rfl (HSub.pick 0 rfl (HSub.pick 0 rfl (HSub.pick 0 rfl (HSub.nil _)))))))))
      · have h80 := of_decide_eq_false h80
        obtain rfl : n = i := by omega
        refine RunC.exit ?_
        refine Ends.then_exit ?_
        refine Ends.then_exit ?_
        refine Ends.block_exit ?_
        refine Ends.then ?_
        refine RunC.seq ?_
        refine RunC.region ?_
        refine RunL.know (fun _ hs => own_shape (hs.own (i := 1) rfl)) (fun hsh => ?_)
        obtain ⟨xb, xc, hxv, hxb⟩ := hsh
        subst hxv
        refine RunL.still rfl rfl rfl (Still.loads rfl rfl Tryz.isAgg24 Tryz.sizeOf24 (vs := [_, _]) rfl (fun _ hs => cells_nth (hs.at (i := 0) rfl) ⟨rfl, ⟨rfl, trivial⟩⟩)) ?_
        refine RunL.does0 rfl rfl (Does.store rfl rfl rfl (i := 7) rfl Tryz.sizeOf24 rfl (rfl) rfl) (fun _ _ => ?_)
        refine RunL.conv (fun _ hs => hs.re 7 rfl (show _ = HL.obj b2 (.cells #[.slice xb (flatTo bs2 n).length xc, iv d.loops] 24 (0, 0)) from rfl)) ?_
        refine RunL.still rfl rfl rfl (Still.assign rfl rfl) ?_
        refine RunL.nil ?_
        refine Ends.then ?_
        refine RunC.ret ?_
        have hall : canF d (bs2.map Prod.snd) = ⟨flatTo bs2 n, d.loops⟩ := by rw [← hbl, flatTo_all]; rfl
        refine Ends.leave (.inl rfl) (fun _ _ ok => results2 Tryz.results15 (Holds.cell rfl (fun _ hs => load_cells (vs := [_, _]) Tryz.isAgg24 Tryz.sizeOf24 rfl (cells_nth (hs.at (i := 7) rfl) ⟨rfl, ⟨rfl, trivial⟩⟩))) (Holds.tmp rfl) ok) (fun w1 hs => ?_)
        refine Ret.intro ((xb, xc), bs2.map Prod.snd) ⟨by show OKB (xb, xc) (canF d _).cross.length; rw [hall]; exact hxb, hcan⟩ (by show _ = Value.tuple #[diaV xb xc (canF d (bs2.map Prod.snd)), iv 0]; rw [hall]) ?_ hs
        show HSub [ownD (xb, xc) (canF d (bs2.map Prod.snd))] _
        rw [hall]
        exact HSub.pick 1 rfl (HSub.nil _)

theorem dg_Canonical_bad (base : Option Addr) (A : Addr) (cap : Nat) (d : Dia) (w : World) (hd : DiaAt w base A d) (hc : checkI d ≠ 0) : Gives Tryz.prog 15 #[diaV base cap d] w Nil (fun _ : Unit => True) (fun _ => .tuple #[.agg #[.slice none 0 0, iv 0], iv (checkI d)]) (fun _ => []) := by
  refine fn_of_run (S := Nil) (args := [diaV base cap d]) (n := 121) (L := []) Tryz.func15 rfl Tryz.ntmps15 (Nat.le_of_ble_eq_true rfl) (Sym.nil _ _) ?_
  change RunC _ _ _ [(0, _)] _
  refine RunC.seq ?_
  refine RunC.region ?_
  refine RunL.grows rfl rfl rfl (Grows.box rfl rfl) (fun b1 _ => ?_)
  refine RunL.grows rfl rfl rfl (Grows.alloc rfl Tryz.zeroValue24) (fun b2 _ => ?_)
  refine RunL.still rfl rfl rfl (Still.assign rfl rfl) ?_
  refine RunL.nil ?_
  refine Ends.then ?_
  refine RunC.seq ?_
  refine RunC.region ?_
  refine RunL.still rfl rfl rfl (Still.loads rfl rfl Tryz.isAgg24 Tryz.sizeOf24 (vs := [_, _]) rfl (fun _ hs => cells_nth (hs.at (i := 1) rfl) ⟨rfl, ⟨rfl, trivial⟩⟩)) ?_
  refine RunL.grows rfl rfl rfl (Grows.call (vs := #[_]) rfl rfl Tryz.call31 (fun w hs => dg_enter_bad base A cap d w (hd.sym hs) hc)) (fun _ _ => ?_)
  refine RunL.still rfl rfl rfl (Still.move rfl rfl) ?_
  refine RunL.still rfl rfl rfl (Still.extractN rfl rfl rfl) ?_
  refine RunL.still rfl rfl rfl (Still.extractN rfl rfl rfl) ?_
  refine RunL.still rfl rfl rfl (Still.assign rfl rfl) ?_
  refine RunL.still rfl rfl rfl (Still.assign rfl rfl) ?_
  refine RunL.nil ?_
  refine Ends.then ?_
  refine RunC.seq ?_
  refine RunC.seq ?_
  refine RunC.region ?_
  refine RunL.still rfl rfl rfl (Still.move rfl rfl) ?_
  refine RunL.still rfl rfl rfl (Still.neq rfl rfl rfl) ?_
  refine RunL.nil ?_
  refine Ends.then ?_
  refine RunC.cond rfl (fun h25 => ?_) (fun h25 => ?_)
  · have h25 := of_decide_eq_true h25
    refine RunC.seq ?_
    refine RunC.region ?_
    refine RunL.still rfl rfl rfl (Still.build_0 (.agg #[.slice none 0 0, .int .i64 0]) rfl (fun _ => by kernel_rfl)) ?_
    refine RunL.still rfl rfl rfl (Still.move rfl rfl) ?_
    refine RunL.does0 rfl rfl (Does.store rfl rfl rfl (i := 0) rfl Tryz.sizeOf24 rfl (rfl) rfl) (fun _ _ => ?_)
    refine RunL.conv (fun _ hs => hs.re 0 rfl (show _ = HL.obj b2 (.cells #[.slice none 0 0, iv 0] 24 (0, 0)) from rfl)) ?_
    refine RunL.still rfl rfl rfl (Still.assign rfl rfl) ?_
    refine RunL.nil ?_
    refine Ends.then ?_
    refine RunC.ret ?_
    refine Ends.then_ret ?_
    refine Ends.leave (.inl rfl) (fun _ _ ok => results2 Tryz.results15 (Holds.cell rfl (fun _ hs => load_cells (vs := [_, _]) Tryz.isAgg24 Tryz.sizeOf24 rfl (cells_nth (hs.at (i := 0) rfl) ⟨rfl, ⟨rfl, trivial⟩⟩))) (Holds.tmp rfl) ok) (fun w1 hs => ?_)
    exact Ret.intro () trivial rfl (HSub.nil _) hs
  · have h25 := of_decide_eq_false h25
    exact absurd hc h25

end Go.Proofs
/- Equality of diagrams, and their count of components, by the reference. -/
namespace Go.Proofs
open Go Go.V
set_option maxRecDepth 20000
theorem eq69 (a b c f s a1 b1 c1 f1 s1 : Int) (w : World) : (Op.equalIn 10000 62 (.agg #[iv a, iv b, iv c, iv f, iv s]) (.agg #[iv a1, iv b1, iv c1, iv f1, iv s1])).run Tryz.prog w = .ok (decide (a = a1 ∧ b = b1 ∧ c = c1 ∧ f = f1 ∧ s = s1)) w := eq_five Tryz.underlying62 Tryz.stoodInHeld62 Tryz.underlying60 Tryz.underlying3 Tryz.underlying3 (by kernel_rfl : Tryz.prog.info? 3 = some Tryz.t3) (by kernel_rfl) Tryz.sizeOf60 (by decide) (by decide) rfl rfl 9997 _ _ _ _ _ _ _ _ _ _ w

theorem ref_Same (ba bb : Option Addr) (A B : Addr) (ca cb : Nat) (a b : Dia) (w : World) (hda : DiaAt w ba A a) (hdb : DiaAt w bb B b) : Gives Tryz.prog 11 #[diaV ba ca a, diaV bb cb b] w Nil (fun _ : Unit => True) (fun _ => .bool (decide (a = b))) (fun _ => []) := by
  have hlen := hda.len
  have hlen2 := hdb.len
  refine fn_of_run (S := Nil) (args := [diaV ba ca a, diaV bb cb b]) (n := 38) (L := []) Tryz.func11 rfl Tryz.ntmps11 (Nat.le_of_ble_eq_true rfl) (Sym.nil _ _) ?_
  change RunC _ _ _ [(0, _), (1, _)] _
  refine RunC.seq ?_
  refine RunC.region ?_
  refine RunL.grows rfl rfl rfl (Grows.box rfl rfl) (fun b2 _ => ?_)
  refine RunL.grows rfl rfl rfl (Grows.box rfl rfl) (fun b3 _ => ?_)
  refine RunL.still rfl rfl rfl (Still.assign rfl rfl) ?_
  refine RunL.nil ?_
  refine Ends.then ?_
  refine RunC.seq ?_
  refine RunC.seq ?_
  refine RunC.meet1 (chg := [(19, .bool (decide (a.loops ≠ b.loops ∨ (a.cross.length : Int) ≠ (b.cross.length : Int))))]) (keep := [(2, _), (3, _)]) (hkeep := [_, _]) (Fr.Sub.cons rfl (Fr.Sub.cons rfl (Fr.Sub.nil _))) (HSub.pick 0 rfl (HSub.pick 0 rfl (HSub.nil _))) ?_ ?_
  ·
    refine RunC.region ?_
    refine RunL.still rfl rfl rfl (Still.fieldAddrL (off := 0) (off' := 1) rfl rfl Tryz.underlying24 rfl Tryz.sizeOf3 rfl) ?_
    refine RunL.still rfl rfl rfl (Still.load rfl rfl Tryz.isAgg3 (fun _ hs => cell_nth (hs.at (i := 1) rfl) rfl)) ?_
    refine RunL.still rfl rfl rfl (Still.fieldAddrL (off := 0) (off' := 1) rfl rfl Tryz.underlying24 rfl Tryz.sizeOf3 rfl) ?_
    refine RunL.still rfl rfl rfl (Still.load rfl rfl Tryz.isAgg3 (fun _ hs => cell_nth (hs.at (i := 0) rfl) rfl)) ?_
    refine RunL.still rfl rfl rfl (Still.neq rfl rfl rfl) ?_
    refine RunL.still rfl rfl rfl (Still.move rfl rfl) ?_
    refine RunL.split (t := 11) rfl (fun h11 => ?_) (fun h11 => ?_)
    · have h11 := of_decide_eq_true h11
      refine RunL.off rfl rfl rfl ?_
      refine RunL.off rfl rfl rfl ?_
      refine RunL.off rfl rfl rfl ?_
      refine RunL.off rfl rfl rfl ?_
      refine RunL.off rfl rfl rfl ?_
      refine RunL.off rfl rfl rfl ?_
      refine RunL.off rfl rfl rfl ?_
      refine RunL.still rfl rfl rfl (Still.pickT rfl rfl rfl) ?_
      refine RunL.nil ?_
      exact Ends.meet1 (Fr.Sub.cons (by first | exact congrArg (fun b => some (Value.bool b)) (decide_eq_true (by omega)).symm | exact congrArg (fun b => some (Value.bool b)) (decide_eq_false (by omega)).symm | exact congrArg (fun b => some (Value.bool b)) (decide_eq_decide.2 (by omega))) (Fr.Sub.nil _)) (Fr.Sub.cons rfl (Fr.Sub.cons rfl (Fr.Sub.nil _))) (HSub.pick 0 rfl (HSub.pick 0 rfl (HSub.nil _)))
    · have h11 := of_decide_eq_false h11
      refine RunL.still rfl rfl rfl (Still.fieldAddrL (off := 0) (off' := 0) rfl rfl Tryz.underlying24 rfl Tryz.sizeOf22 rfl) ?_
      refine RunL.still rfl rfl rfl (Still.load rfl rfl Tryz.isAgg22 (fun _ hs => cell_nth (hs.at (i := 1) rfl) rfl)) ?_
      refine RunL.still rfl rfl rfl (Still.lenSlice rfl rfl Tryz.underlying22) ?_
      refine RunL.still rfl rfl rfl (Still.fieldAddrL (off := 0) (off' := 0) rfl rfl Tryz.underlying24 rfl Tryz.sizeOf22 rfl) ?_
      refine RunL.still rfl rfl rfl (Still.load rfl rfl Tryz.isAgg22 (fun _ hs => cell_nth (hs.at (i := 0) rfl) rfl)) ?_
      refine RunL.still rfl rfl rfl (Still.lenSlice rfl rfl Tryz.underlying22) ?_
      refine RunL.still rfl rfl rfl (Still.neq rfl rfl rfl) ?_
      refine RunL.still rfl rfl rfl (Still.pickF rfl rfl rfl) ?_
      refine RunL.nil ?_
      exact Ends.meet1 (Fr.Sub.cons (by first | exact congrArg (fun b => some (Value.bool b)) (decide_eq_true (by omega)).symm | exact congrArg (fun b => some (Value.bool b)) (decide_eq_false (by omega)).symm | exact congrArg (fun b => some (Value.bool b)) (decide_eq_decide.2 (by omega))) (Fr.Sub.nil _)) (Fr.Sub.cons rfl (Fr.Sub.cons rfl (Fr.Sub.nil _))) (HSub.pick 0 rfl (HSub.pick 0 rfl (HSub.nil _)))
  ·
    refine Ends.then ?_
    refine RunC.cond rfl (fun h19 => ?_) (fun h19 => ?_)
    · have h19 := of_decide_eq_true h19
      refine RunC.seq ?_
      refine RunC.region ?_
      refine RunL.still rfl rfl rfl (Still.assign rfl rfl) ?_
      refine RunL.nil ?_
      refine Ends.then ?_
      refine RunC.ret ?_
      refine Ends.then_ret ?_
      refine Ends.leave (.inl rfl) (fun _ _ ok => results1 Tryz.results11 (Holds.tmp rfl) ok) (fun w1 hs => ?_)
      exact Ret.intro () trivial (congrArg Value.bool (decide_eq_false (fun e => by subst e; omega)).symm) (HSub.nil _) hs
    · have h19 := of_decide_eq_false h19
      refine RunC.skip ?_
      refine Ends.then ?_
      refine RunC.seq ?_
      refine RunC.seq ?_
      refine RunC.region ?_
      refine RunL.still rfl rfl rfl (Still.assign rfl rfl) ?_
      refine RunL.nil ?_
      refine Ends.then ?_
      refine RunC.block ?_
      refine RunC.loop2 (γ := Nat) (keep := [(2, _), (3, _)]) (hkeep := [_, _]) (fun i => i ≤ a.cross.length ∧ ∀ j, j < i → a.cross[j]? = b.cross[j]?) (fun i => a.cross.length - i) (fun i => [(5, iv i)]) (fun i => []) 0 ⟨by omega, fun j h => by omega⟩ (Fr.Sub.cons rfl (Fr.Sub.nil _)) (Fr.Sub.cons rfl (Fr.Sub.cons rfl (Fr.Sub.nil _))) (HSub.pick 0 rfl (HSub.pick 0 rfl (HSub.nil _))) ?_
      rintro i ⟨hi, he⟩
      refine RunC.seq ?_
      refine RunC.seq ?_
      refine RunC.region ?_
      refine RunL.still rfl rfl rfl (Still.move rfl rfl) ?_
      refine RunL.still rfl rfl rfl (Still.fieldAddrL (off := 0) (off' := 0) rfl rfl Tryz.underlying24 rfl Tryz.sizeOf22 rfl) ?_
      refine RunL.still rfl rfl rfl (Still.load rfl rfl Tryz.isAgg22 (fun _ hs => cell_nth (hs.at (i := 1) rfl) rfl)) ?_
      refine RunL.still rfl rfl rfl (Still.lenSlice rfl rfl Tryz.underlying22) ?_
      refine RunL.still rfl rfl rfl (Still.lss rfl rfl rfl) ?_
      refine RunL.nil ?_
      refine Ends.then ?_
      refine RunC.cond rfl (fun h24 => ?_) (fun h24 => ?_)
      · have h24 := of_decide_eq_true h24
        obtain ⟨x, hx⟩ := get_of_lt (l := a.cross) (i := i) (by omega)
        obtain ⟨y, hy⟩ := get_of_lt (l := b.cross) (i := i) (by omega)
        refine RunC.skip ?_
        refine Ends.then ?_
        refine RunC.seq ?_
        refine RunC.block ?_
        refine RunC.seq ?_
        refine RunC.draw 10 (.still 0 (.still 1 (.still 2 (.still 3 (.still 4 (.still 5 (.still 6 (.still 7 (.still 8 (.still 9 .done)))))))))) (by kernel_rfl) (by kernel_rfl) ?_
        refine RunG.still rfl rfl rfl rfl (Still.fieldAddrL (off := 0) (off' := 0) rfl rfl Tryz.underlying24 rfl Tryz.sizeOf22 rfl) ?_
        refine RunG.still rfl rfl rfl rfl (Still.load rfl rfl Tryz.isAgg22 (fun _ hs => cell_nth (hs.at (i := 1) rfl) rfl)) ?_
        refine RunG.still rfl rfl rfl rfl (Still.move rfl rfl) ?_
        refine RunG.still rfl rfl rfl rfl (Still.indexSliceN rfl rfl rfl Tryz.underlying22 Tryz.sizeOf62 (hda.base (by omega)) (by omega)) ?_
        refine RunG.still rfl rfl rfl rfl (Still.loads rfl rfl Tryz.isAgg62 Tryz.sizeOf62 (vs := [iv x.a0, iv x.a1, iv x.a2, iv x.a3, iv x.s]) rfl (fun _ hs => Cells.base0 (hda.cross hx) hs)) ?_
        refine RunG.still rfl rfl rfl rfl (Still.fieldAddrL (off := 0) (off' := 0) rfl rfl Tryz.underlying24 rfl Tryz.sizeOf22 rfl) ?_
        refine RunG.still rfl rfl rfl rfl (Still.load rfl rfl Tryz.isAgg22 (fun _ hs => cell_nth (hs.at (i := 0) rfl) rfl)) ?_
        refine RunG.still rfl rfl rfl rfl (Still.move rfl rfl) ?_
        refine RunG.still rfl rfl rfl rfl (Still.indexSliceN rfl rfl rfl Tryz.underlying22 Tryz.sizeOf62 (hdb.base (by omega)) (by omega)) ?_
        refine RunG.still rfl rfl rfl rfl (Still.loads rfl rfl Tryz.isAgg62 Tryz.sizeOf62 (vs := [iv y.a0, iv y.a1, iv y.a2, iv y.a3, iv y.s]) rfl (fun _ hs => Cells.base0 (hdb.cross hy) hs)) ?_
        refine RunG.done ?_
        show RunL _ _ _ [_] _ _
        refine RunL.still rfl rfl rfl (Still.neqAgg rfl rfl rfl Tryz.eqGuardType62 (fun _ => eq69 _ _ _ _ _ _ _ _ _ _ _)) ?_
        refine RunL.nil ?_
        refine Ends.then ?_
        refine RunC.cond rfl (fun h37 => ?_) (fun h37 => ?_)
        · skip
          refine RunC.seq ?_
          refine RunC.region ?_
          refine RunL.still rfl rfl rfl (Still.assign rfl rfl) ?_
          refine RunL.nil ?_
          refine Ends.then ?_
          refine RunC.ret ?_
          refine Ends.block_ret ?_
          refine Ends.then_ret ?_
          refine Ends.then_ret ?_
          refine Ends.block_ret ?_
          refine Ends.then_ret ?_
          refine Ends.leave (.inl rfl) (fun _ _ ok => results1 Tryz.results11 (Holds.tmp rfl) ok) (fun w2 hs => ?_)
          exact Ret.intro () trivial (congrArg Value.bool (decide_eq_false (fun e => by subst e; rw [hx] at hy; cases hy; simp at h37)).symm) (HSub.nil _) hs
        · skip
          refine RunC.skip ?_
          refine Ends.block ?_
          refine Ends.then ?_
          refine RunC.region ?_
          refine RunL.still rfl rfl rfl (Still.move rfl rfl) ?_
          refine RunL.still rfl rfl rfl (Still.add rfl rfl rfl (fits64 (by omega) (by omega))) ?_
          refine RunL.still rfl rfl rfl (Still.assign rfl rfl) ?_
          refine RunL.nil ?_
          have hxy : x = y := by obtain ⟨x0, x1, x2, x3, xs⟩ := x; obtain ⟨y0, y1, y2, y3, ys⟩ := y; simp at h37; simp [h37]
          refine Ends.again (i + 1) ?_ ?_ (Fr.Sub.app ?_ ?_) ?_
          · exact ⟨by omega, fun j h => by rcases Nat.lt_or_ge j i with h2 | h2; exact he j h2; obtain rfl : j = i := (by omega); rw [hx, hy, hxy]⟩
          · show _ < _; omega
          · exact Fr.Sub.cons rfl (Fr.Sub.nil _)
          · exact Fr.Sub.cons rfl (Fr.Sub.cons rfl (Fr.Sub.nil _))
          · exact HSub.pick 0 rfl (HSub.pick 0 rfl (HSub.nil _))
      · have h24 := of_decide_eq_false h24
        refine RunC.exit ?_
        refine Ends.then_exit ?_
        refine Ends.then_exit ?_
        refine Ends.block_exit ?_
        refine Ends.then ?_
        refine RunC.seq ?_
        refine RunC.region ?_
        refine RunL.still rfl rfl rfl (Still.assign rfl rfl) ?_
        refine RunL.nil ?_
        refine Ends.then ?_
        refine RunC.ret ?_
        refine Ends.leave (.inl rfl) (fun _ _ ok => results1 Tryz.results11 (Holds.tmp rfl) ok) (fun w3 hs => ?_)
        exact Ret.intro () trivial (congrArg Value.bool (decide_eq_true (by have hc : a.cross = b.cross := List.ext_getElem? fun j => (by rcases Nat.lt_or_ge j a.cross.length with h | h; exact he j (by omega); rw [List.getElem?_eq_none (by omega), List.getElem?_eq_none (by omega)]); obtain ⟨ac, al⟩ := a; obtain ⟨bc, bl⟩ := b; simp at h19 hc ⊢; exact ⟨hc, by omega⟩)).symm) (HSub.nil _) hs

end Go.Proofs
/- Texts by the reference, chapter 22. -/
namespace Go.Proofs
open Go Go.V
set_option maxRecDepth 20000
end Go.Proofs
/- The text by the reference, chapter 22. -/
namespace Go.Proofs
open Go Go.V
set_option maxRecDepth 20000
end Go.Proofs
/- The reference reads a text, chapter 22. -/
namespace Go.Proofs
open Go Go.V
set_option maxRecDepth 20000
end Go.Proofs
/- What the program uses of the library; numbers; the text of a diagram. -/
namespace Go.Proofs
open Go Go.V
set_option maxRecDepth 20000
open Go.RowKit in
theorem sym_of_below {w w' : World} (h : Below w.heap.size w w') : Sym w Nil [] w' := ⟨Old.of_below h, fun h hh => (by cases hh), fun h hh => (by cases hh), List.Pairwise.nil⟩
theorem z_grow (B : Nat) (w : World) (hB : B ≤ w.heap.size) (k : Nat) (os : Array Obj) : RowKit.Below B w (Sort.grow (w.drewN k) os) :=
  ⟨rfl, rfl, rfl, (by show w.heap.size ≤ (w.heap ++ os).size; rw [Array.size_append]; omega), fun j hj => (by
    show (w.heap ++ os)[j]? = w.heap[j]?
    rw [Array.getElem?_append_left (by omega)])⟩
theorem var_old {P : Program} {n : String} {cs : Array Value} {w w' : World} (h : w.var? P n = some cs) (ho : Old Nil w w') : w'.var? P n = some cs := by
  unfold World.var? at *
  cases hg : P.globalNamed n with
  | none => rw [hg] at h; cases h
  | some g =>
    rw [hg] at h
    simp only [Option.bind_some] at h ⊢
    have hlt : g < w.heap.size := by
      rcases Nat.lt_or_ge g w.heap.size with h1 | h1
      · exact h1
      · rw [Array.getElem?_eq_none h1] at h; cases h
    rw [ho.block g hlt (fun x => x)]; exact h
/-- What the library reads of the package-level variables. -/
structure Tabs (w : World) : Prop where
  tab : Lib.TabIs Tryz.prog w "internal/strconv.uint64pow10" .u64 Lib.pow10Tab
theorem Tabs.sym {w w' : World} {L : List HL} (h : Tabs w) (hs : Sym w Nil L w') : Tabs w' := ⟨var_old h.tab hs.old⟩
/-- The same, and what reading a text needs. -/
structure Env (w : World) : Prop extends Tabs w where
  ml : ∃ m, w.cell? ⟨0, 0, none⟩ = some (.int .i64 m)
  syn : ∃ tp p, w.var? Tryz.prog "strconv.ErrSyntax" = some #[.iface tp p]
  rng : ∃ tp p, w.var? Tryz.prog "strconv.ErrRange" = some #[.iface tp p]
def itoaS (n : Int) : ByteArray := ⟨(Lib.itoa n).toArray⟩
theorem itoaS_pos {n : Int} (h : 0 ≤ n) : itoaS n = numS n := by rw [itoaS, Lib.itoa, if_neg (by omega)]; rfl
instance {w : World} : Coe (Env w) (Tabs w) := ⟨fun h => h.toTabs⟩
theorem z_Itoa (n : Int) (w : World) (he : Tabs w) (h : In64 n) : Gives Tryz.prog 32 #[iv n] w Nil (fun _ : Unit => True) (fun _ => .string (itoaS n)) (fun _ => []) := by
  refine Calls.mono (Tryz.strconv_Itoa n h.1 h.2 w he.tab) ?_
  rintro e w' ⟨rfl, k, os, rfl⟩
  exact ⟨(), trivial, rfl, sym_of_below (z_grow _ w (Nat.le_refl _) k os)⟩
theorem z_ItoaP (n : Int) (w : World) (he : Tabs w) (h0 : 0 ≤ n) (h1 : n ≤ 9223372036854775807) : Gives Tryz.prog 32 #[iv n] w Nil (fun _ : Unit => True) (fun _ => .string (numS n)) (fun _ => []) := by
  rw [← itoaS_pos h0]
  exact z_Itoa n w he ⟨by omega, h1⟩
theorem z_Join (g c n : Nat) (xs : List ByteArray) (w : World) (hn : xs.length = n) (hc : Cells w ⟨g, 0, none⟩ (strs xs)) (hg : g < w.heap.size) (hcap : xs.length ≤ c) (h200 : xs.length ≤ 200) (hs : ∀ s ∈ xs, s.size ≤ 4009) :
    Gives Tryz.prog 33 #[.slice (some ⟨g, 0, none⟩) n c, .string semiS] w Nil (fun _ : Unit => True) (fun _ => .string (joinS xs)) (fun _ => []) := by
  subst hn
  have hl := join_len hs
  refine Calls.mono (Tryz.strings_Join g 0 c xs semiS w (fun j x hx => ?_) hg (by omega) hcap (by omega)) ?_
  · have := hc j (.string x) (by simp [strs, hx])
    rw [show Addr.add ⟨g, 0, none⟩ j = ⟨g, 0 + j, none⟩ from by unfold Addr.add; split <;> simp_all] at this
    exact this
  · rintro e w' ⟨rfl, hb⟩
    exact ⟨(), trivial, rfl, sym_of_below hb⟩

theorem dg_Text (base : Option Addr) (A : Addr) (cap : Nat) (d : Dia) (w : World) (hd : DiaAt w base A d) (hc : checkI d = 0) (hsm : ∀ x ∈ d.cross, MidCr x) (hsl : d.loops ≤ 1000) (he : Tabs w) : Gives Tryz.prog 7 #[diaV base cap d] w Nil (fun _ : Unit => True) (fun _ => .tuple #[.string (textOf d), iv 0]) (fun _ => []) := by
  obtain ⟨hS, hPl⟩ := checkI_ok.1 hc
  have h200 := hS.1
  have hlo := hS.2.1
  have hlo2 := hS.2.2.1
  refine fn_of_run (S := Nil) (args := [diaV base cap d]) (n := 59) (L := []) Tryz.func7 rfl Tryz.ntmps7 (Nat.le_of_ble_eq_true rfl) (Sym.nil _ _) ?_
  change RunC _ _ _ [(0, _)] _
  refine RunC.seq ?_
  refine RunC.region ?_
  refine RunL.grows rfl rfl rfl (Grows.box rfl rfl) (fun b1 _ => ?_)
  refine RunL.still rfl rfl rfl (Still.assign rfl rfl) ?_
  refine RunL.still rfl rfl rfl (Still.assign rfl rfl) ?_
  refine RunL.nil ?_
  refine Ends.then ?_
  refine RunC.seq ?_
  refine RunC.seq ?_
  refine RunC.region ?_
  refine RunL.still rfl rfl rfl (Still.loads rfl rfl Tryz.isAgg24 Tryz.sizeOf24 (vs := [_, _]) rfl (fun _ hs => cells_nth (hs.at (i := 0) rfl) ⟨rfl, ⟨rfl, trivial⟩⟩)) ?_
  refine RunL.grows rfl rfl rfl (Grows.call (vs := #[_]) rfl rfl Tryz.call31 (fun w hs => dg_enter_ok base A cap d w (hd.sym hs) hc)) (fun ⟨eb, av⟩ hav => ?_)
  refine RunL.still rfl rfl rfl (Still.move rfl rfl) ?_
  refine RunL.still rfl rfl rfl (Still.extractN rfl rfl rfl) ?_
  refine RunL.still rfl rfl rfl (Still.extractN rfl rfl rfl) ?_
  refine RunL.still rfl rfl rfl (Still.assign rfl rfl) ?_
  refine RunL.still rfl rfl rfl (Still.assign rfl rfl) ?_
  refine RunL.nil ?_
  refine Ends.then ?_
  refine RunC.seq ?_
  refine RunC.region ?_
  refine RunL.still rfl rfl rfl (Still.move rfl rfl) ?_
  refine RunL.still rfl rfl rfl (Still.neq rfl rfl rfl) ?_
  refine RunL.nil ?_
  refine Ends.then ?_
  refine RunC.cond rfl (fun h18 => ?_) (fun h18 => ?_)
  · have h18 := of_decide_eq_true h18
    exact absurd rfl h18
  · have h18 := of_decide_eq_false h18
    refine RunC.skip ?_
    refine Ends.then ?_
    refine RunC.seq ?_
    refine RunC.region ?_
    refine RunL.still rfl rfl rfl (Still.assign rfl rfl) ?_
    refine RunL.own_nil 9 1 ?_
    refine RunL.nil ?_
    refine Ends.then ?_
    refine RunC.seq ?_
    refine RunC.seq ?_
    refine RunC.region ?_
    refine RunL.still rfl rfl rfl (Still.fieldAddrL (off := 0) (off' := 0) rfl rfl Tryz.underlying24 rfl Tryz.sizeOf22 rfl) ?_
    refine RunL.still rfl rfl rfl (Still.load rfl rfl Tryz.isAgg22 (fun _ hs => cell_nth (hs.at (i := 3) rfl) rfl)) ?_
    refine RunL.still rfl rfl rfl (Still.lenSlice rfl rfl Tryz.underlying22) ?_
    refine RunL.still rfl rfl rfl (Still.move rfl rfl) ?_
    refine RunL.nil ?_
    refine Ends.then ?_
    refine RunC.block ?_
    refine RunC.loop2 (γ := Value × Nat) (keep := [(1, _), (21, _), (22, _)]) (hkeep := [_, _, _]) (fun (v, c) => c ≤ d.cross.length) (fun (v, c) => d.cross.length - c) (fun (v, c) => [(6, v), (23, iv c)]) (fun (v, c) => [HL.own 9 1 v c (strs ((d.cross.take c).map crS))]) (.slice none 0 0, 0) (by omega) (Fr.Sub.cons rfl (Fr.Sub.cons rfl (Fr.Sub.nil _))) (Fr.Sub.cons rfl (Fr.Sub.cons rfl (Fr.Sub.cons rfl (Fr.Sub.nil _)))) (HSub.pick 0 rfl (HSub.pick 0 rfl (HSub.pick 0 rfl (HSub.pick 0 rfl (HSub.nil _))))) ?_
    rintro ⟨v, c⟩ hcl
    refine RunC.seq ?_
    refine RunC.region ?_
    refine RunL.still rfl rfl rfl (Still.lss rfl rfl rfl) ?_
    refine RunL.nil ?_
    refine Ends.then ?_
    refine RunC.seq ?_
    refine RunC.cond rfl (fun h24 => ?_) (fun h24 => ?_)
    · have h24 := of_decide_eq_true h24
      have hcl : c ≤ d.cross.length := hcl
      obtain ⟨x, hx⟩ := get_of_lt (l := d.cross) (i := c) (by omega)
      have hxp := hsm x (List.mem_of_getElem? hx)
      refine RunC.skip ?_
      refine Ends.then ?_
      refine RunC.seq ?_
      refine RunC.block ?_
      refine RunC.seq ?_
      refine RunC.region ?_
      refine RunL.still rfl rfl rfl (Still.indexSliceN rfl rfl rfl Tryz.underlying22 Tryz.sizeOf62 (hd.base (by omega)) (by omega)) ?_
      refine RunL.still rfl rfl rfl (Still.loads rfl rfl Tryz.isAgg62 Tryz.sizeOf62 (vs := encCr x) rfl (fun _ hs => Cells.base0 (hd.cross hx) hs)) ?_
      refine RunL.grows rfl rfl rfl (Grows.alloc rfl Tryz.zeroValue62) (fun b8 _ => ?_)
      refine RunL.does0 rfl rfl (Does.store rfl rfl rfl (i := 0) rfl Tryz.sizeOf62 rfl (rfl) rfl) (fun _ _ => ?_)
      refine RunL.nil ?_
      refine Ends.then ?_
      refine RunC.seq ?_
      refine RunC.region ?_
      refine RunL.still rfl rfl rfl (Still.assign rfl rfl) ?_
      refine RunL.nil ?_
      refine Ends.then ?_
      refine RunC.seq ?_
      refine RunC.seq ?_
      refine RunC.region ?_
      refine RunL.still rfl rfl rfl (Still.fieldAddrL (off := 0) (off' := 4) rfl rfl Tryz.underlying62 rfl Tryz.sizeOf3 rfl) ?_
      refine RunL.still rfl rfl rfl (Still.load rfl rfl Tryz.isAgg3 (fun _ hs => cell_nth (hs.at (i := 0) rfl) rfl)) ?_
      refine RunL.still rfl rfl rfl (Still.lss rfl rfl rfl) ?_
      refine RunL.nil ?_
      refine Ends.then ?_
      refine RunC.cond rfl (fun h29 => ?_) (fun h29 => ?_)
      · have h29 := of_decide_eq_true h29
        refine RunC.region ?_
        refine RunL.still rfl rfl rfl (Still.assign rfl rfl) ?_
        refine RunL.nil ?_
        refine Ends.then ?_
        refine RunC.seq ?_
        refine RunC.seq ?_
        refine RunC.region ?_
        refine RunL.still rfl rfl rfl (Still.fieldAddrL (off := 0) (off' := 0) rfl rfl Tryz.underlying62 rfl Tryz.sizeOf60 rfl) ?_
        refine RunL.still rfl rfl rfl (Still.loads rfl rfl Tryz.isAgg60 Tryz.sizeOf60 (vs := [_, _, _, _]) rfl (fun _ hs => cells_nth (hs.at (i := 0) rfl) ⟨rfl, ⟨rfl, ⟨rfl, ⟨rfl, trivial⟩⟩⟩⟩)) ?_
        refine RunL.still rfl rfl rfl (Still.move rfl rfl) ?_
        refine RunL.nil ?_
        refine Ends.then ?_
        refine RunC.block ?_
        refine RunC.loop2 (γ := Nat) (keep := [(1, _), (6, _), (21, _), (22, _), (23, _), (31, _)]) (hkeep := [_, _, _, _, _]) (fun p => p ≤ 4) (fun p => 4 - p) (fun p => [(9, .string (crTo x p)), (32, iv p)]) (fun p => []) 0 (by omega) (Fr.Sub.cons (by first | (rw [crTo, sgnS, if_pos h29]; rfl) | (rw [crTo, sgnS, if_neg h29]; rfl)) (Fr.Sub.cons rfl (Fr.Sub.nil _))) (Fr.Sub.cons rfl (Fr.Sub.cons rfl (Fr.Sub.cons rfl (Fr.Sub.cons rfl (Fr.Sub.cons rfl (Fr.Sub.cons rfl (Fr.Sub.nil _))))))) (HSub.pick 0 rfl (HSub.pick 0 rfl (HSub.pick 0 rfl (HSub.pick 0 rfl (HSub.pick 0 rfl (HSub.nil _)))))) ?_
        rintro p hp
        refine RunC.seq ?_
        refine RunC.region ?_
        refine RunL.still rfl rfl rfl (Still.lss rfl rfl rfl) ?_
        refine RunL.nil ?_
        refine Ends.then ?_
        refine RunC.seq ?_
        refine RunC.cond rfl (fun h33 => ?_) (fun h33 => ?_)
        · have h33 := of_decide_eq_true h33
          have hp4 : p < 4 := by omega
          refine RunC.skip ?_
          refine Ends.then ?_
          refine RunC.seq ?_
          refine RunC.block ?_
          refine RunC.seq ?_
          refine RunC.region ?_
          refine RunL.still rfl rfl rfl (Still.index rfl rfl rfl Tryz.underlying60 Tryz.sizeOf3 Tryz.isAgg3 ⟨by omega, by omega⟩ (arc_index hp4)) ?_
          refine RunL.still rfl rfl rfl (Still.assign rfl rfl) ?_
          refine RunL.nil ?_
          refine Ends.then ?_
          refine RunC.region ?_
          refine RunL.still rfl rfl rfl (Still.move rfl rfl) ?_
          refine RunL.still rfl rfl rfl (Still.move rfl rfl) ?_
          refine RunL.grows rfl rfl rfl (Grows.call (vs := #[_]) rfl rfl Tryz.call32 (fun w hs => z_ItoaP (x.arc p) w (he.sym hs) (hxp p hp4).1 (by have := (hxp p hp4).2; omega))) (fun _ _ => ?_)
          refine RunL.still rfl rfl rfl (Still.cat rfl rfl rfl (by have := numS_mid (hxp p hp4).1 (hxp p hp4).2; show 1 + (numS (x.arc p)).size ≤ _; omega)) ?_
          refine RunL.still rfl rfl rfl (Still.cat rfl rfl rfl (by have h1 := numS_mid (hxp p hp4).1 (hxp p hp4).2; have h2 := crTo_mid hxp p hp; rw [ByteArray.size_append]; show _ + (1 + (numS (x.arc p)).size) ≤ _; omega)) ?_
          refine RunL.still rfl rfl rfl (Still.assign rfl rfl) ?_
          refine RunL.nil ?_
          refine Ends.block ?_
          refine Ends.then ?_
          refine RunC.region ?_
          refine RunL.still rfl rfl rfl (Still.add rfl rfl rfl (fits64 (by omega) (by omega))) ?_
          refine RunL.still rfl rfl rfl (Still.move rfl rfl) ?_
          refine RunL.nil ?_
          refine Ends.again (p + 1) ?_ ?_ (Fr.Sub.app ?_ ?_) ?_
          · show _; omega
          · show _ < _; omega
          · exact Fr.Sub.cons rfl (Fr.Sub.cons rfl (Fr.Sub.nil _))
          · exact Fr.Sub.cons rfl (Fr.Sub.cons rfl (Fr.Sub.cons rfl (Fr.Sub.cons rfl (Fr.Sub.cons rfl (Fr.Sub.cons rfl (Fr.Sub.nil _))))))
          · exact HSub.pick 0 rfl (HSub.pick 0 rfl (HSub.pick 0 rfl (HSub.pick 0 rfl (HSub.pick 0 rfl (HSub.nil _)))))
        · have h33 := of_decide_eq_false h33
          refine RunC.exit ?_
          refine Ends.then_exit ?_
          refine Ends.then_exit ?_
          refine Ends.block_exit ?_
          refine Ends.then ?_
          refine RunC.region ?_
          refine RunL.still rfl rfl rfl (Still.move rfl rfl) ?_
          refine RunL.still rfl rfl rfl (Still.move rfl rfl) ?_
          refine RunL.grows rfl rfl rfl (Grows.slice1 rfl rfl Tryz.underlying59 Tryz.sizeOf9 rfl Tryz.zeroValue9 (by decide)) (fun b43 _ => ?_)
          refine RunL.does rfl rfl rfl (Does.appendTo (n' := (c + 1)) (xs' := (strs ((d.cross.take c).map crS ++ [crTo x p]))) (news := [_]) rfl rfl rfl rfl (i := 2) rfl Tryz.underlying59 (by kernel_rfl : (_ : Option _) = some (some (.string ⟨#[]⟩), 1, 16)) rfl rfl (fun _ hs => cells_nth (hs.at (i := 0) rfl) ⟨rfl, trivial⟩) rfl rfl (by omega) (by omega) (rfl) (strs_snoc _ _)) (fun v44 hv44 => ?_)
          refine RunL.still rfl rfl rfl (Still.assign rfl rfl) ?_
          refine RunL.nil ?_
          refine Ends.block ?_
          refine Ends.then ?_
          refine RunC.region ?_
          refine RunL.still rfl rfl rfl (Still.add rfl rfl rfl (fits64 (by omega) (by omega))) ?_
          refine RunL.still rfl rfl rfl (Still.move rfl rfl) ?_
          refine RunL.nil ?_
          obtain rfl : p = 4 := by omega
          refine Ends.again (v44, c + 1) ?_ ?_ (Fr.Sub.app ?_ ?_) ?_
          · show c + 1 ≤ _; omega
          · show _ - (c + 1) < _ - c; omega
          · exact Fr.Sub.cons rfl (Fr.Sub.cons rfl (Fr.Sub.nil _))
          · exact Fr.Sub.cons rfl (Fr.Sub.cons rfl (Fr.Sub.cons rfl (Fr.Sub.nil _)))
          · exact HSub.pick 2 (by rw [List.take_add_one, hx]; simp only [Option.toList_some, List.map_append, List.map_cons, List.map_nil]; rfl) (HSub.pick 2 rfl (HSub.pick 2 rfl (HSub.pick 2 rfl (HSub.nil _))))
      · have h29 := of_decide_eq_false h29
        refine RunC.skip ?_
        refine Ends.then ?_
        refine RunC.seq ?_
        refine RunC.seq ?_
        refine RunC.region ?_
        refine RunL.still rfl rfl rfl (Still.fieldAddrL (off := 0) (off' := 0) rfl rfl Tryz.underlying62 rfl Tryz.sizeOf60 rfl) ?_
        refine RunL.still rfl rfl rfl (Still.loads rfl rfl Tryz.isAgg60 Tryz.sizeOf60 (vs := [_, _, _, _]) rfl (fun _ hs => cells_nth (hs.at (i := 0) rfl) ⟨rfl, ⟨rfl, ⟨rfl, ⟨rfl, trivial⟩⟩⟩⟩)) ?_
        refine RunL.still rfl rfl rfl (Still.move rfl rfl) ?_
        refine RunL.nil ?_
        refine Ends.then ?_
        refine RunC.block ?_
        refine RunC.loop2 (γ := Nat) (keep := [(1, _), (6, _), (21, _), (22, _), (23, _), (31, _)]) (hkeep := [_, _, _, _, _]) (fun p => p ≤ 4) (fun p => 4 - p) (fun p => [(9, .string (crTo x p)), (32, iv p)]) (fun p => []) 0 (by omega) (Fr.Sub.cons (by first | (rw [crTo, sgnS, if_pos h29]; rfl) | (rw [crTo, sgnS, if_neg h29]; rfl)) (Fr.Sub.cons rfl (Fr.Sub.nil _))) (Fr.Sub.cons rfl (Fr.Sub.cons rfl (Fr.Sub.cons rfl (Fr.Sub.cons rfl (Fr.Sub.cons rfl (Fr.Sub.cons rfl (Fr.Sub.nil _))))))) (HSub.pick 0 rfl (HSub.pick 0 rfl (HSub.pick 0 rfl (HSub.pick 0 rfl (HSub.pick 0 rfl (HSub.nil _)))))) ?_
        rintro p hp
        refine RunC.seq ?_
        refine RunC.region ?_
        refine RunL.still rfl rfl rfl (Still.lss rfl rfl rfl) ?_
        refine RunL.nil ?_
        refine Ends.then ?_
        refine RunC.seq ?_
        refine RunC.cond rfl (fun h33 => ?_) (fun h33 => ?_)
        · have h33 := of_decide_eq_true h33
          have hp4 : p < 4 := by omega
          refine RunC.skip ?_
          refine Ends.then ?_
          refine RunC.seq ?_
          refine RunC.block ?_
          refine RunC.seq ?_
          refine RunC.region ?_
          refine RunL.still rfl rfl rfl (Still.index rfl rfl rfl Tryz.underlying60 Tryz.sizeOf3 Tryz.isAgg3 ⟨by omega, by omega⟩ (arc_index hp4)) ?_
          refine RunL.still rfl rfl rfl (Still.assign rfl rfl) ?_
          refine RunL.nil ?_
          refine Ends.then ?_
          refine RunC.region ?_
          refine RunL.still rfl rfl rfl (Still.move rfl rfl) ?_
          refine RunL.still rfl rfl rfl (Still.move rfl rfl) ?_
          refine RunL.grows rfl rfl rfl (Grows.call (vs := #[_]) rfl rfl Tryz.call32 (fun w hs => z_ItoaP (x.arc p) w (he.sym hs) (hxp p hp4).1 (by have := (hxp p hp4).2; omega))) (fun _ _ => ?_)
          refine RunL.still rfl rfl rfl (Still.cat rfl rfl rfl (by have := numS_mid (hxp p hp4).1 (hxp p hp4).2; show 1 + (numS (x.arc p)).size ≤ _; omega)) ?_
          refine RunL.still rfl rfl rfl (Still.cat rfl rfl rfl (by have h1 := numS_mid (hxp p hp4).1 (hxp p hp4).2; have h2 := crTo_mid hxp p hp; rw [ByteArray.size_append]; show _ + (1 + (numS (x.arc p)).size) ≤ _; omega)) ?_
          refine RunL.still rfl rfl rfl (Still.assign rfl rfl) ?_
          refine RunL.nil ?_
          refine Ends.block ?_
          refine Ends.then ?_
          refine RunC.region ?_
          refine RunL.still rfl rfl rfl (Still.add rfl rfl rfl (fits64 (by omega) (by omega))) ?_
          refine RunL.still rfl rfl rfl (Still.move rfl rfl) ?_
          refine RunL.nil ?_
          refine Ends.again (p + 1) ?_ ?_ (Fr.Sub.app ?_ ?_) ?_
          · show _; omega
          · show _ < _; omega
          · exact Fr.Sub.cons rfl (Fr.Sub.cons rfl (Fr.Sub.nil _))
          · exact Fr.Sub.cons rfl (Fr.Sub.cons rfl (Fr.Sub.cons rfl (Fr.Sub.cons rfl (Fr.Sub.cons rfl (Fr.Sub.cons rfl (Fr.Sub.nil _))))))
          · exact HSub.pick 0 rfl (HSub.pick 0 rfl (HSub.pick 0 rfl (HSub.pick 0 rfl (HSub.pick 0 rfl (HSub.nil _)))))
        · have h33 := of_decide_eq_false h33
          refine RunC.exit ?_
          refine Ends.then_exit ?_
          refine Ends.then_exit ?_
          refine Ends.block_exit ?_
          refine Ends.then ?_
          refine RunC.region ?_
          refine RunL.still rfl rfl rfl (Still.move rfl rfl) ?_
          refine RunL.still rfl rfl rfl (Still.move rfl rfl) ?_
          refine RunL.grows rfl rfl rfl (Grows.slice1 rfl rfl Tryz.underlying59 Tryz.sizeOf9 rfl Tryz.zeroValue9 (by decide)) (fun b43 _ => ?_)
          refine RunL.does rfl rfl rfl (Does.appendTo (n' := (c + 1)) (xs' := (strs ((d.cross.take c).map crS ++ [crTo x p]))) (news := [_]) rfl rfl rfl rfl (i := 2) rfl Tryz.underlying59 (by kernel_rfl : (_ : Option _) = some (some (.string ⟨#[]⟩), 1, 16)) rfl rfl (fun _ hs => cells_nth (hs.at (i := 0) rfl) ⟨rfl, trivial⟩) rfl rfl (by omega) (by omega) (rfl) (strs_snoc _ _)) (fun v44 hv44 => ?_)
          refine RunL.still rfl rfl rfl (Still.assign rfl rfl) ?_
          refine RunL.nil ?_
          refine Ends.block ?_
          refine Ends.then ?_
          refine RunC.region ?_
          refine RunL.still rfl rfl rfl (Still.add rfl rfl rfl (fits64 (by omega) (by omega))) ?_
          refine RunL.still rfl rfl rfl (Still.move rfl rfl) ?_
          refine RunL.nil ?_
          obtain rfl : p = 4 := by omega
          refine Ends.again (v44, c + 1) ?_ ?_ (Fr.Sub.app ?_ ?_) ?_
          · show c + 1 ≤ _; omega
          · show _ - (c + 1) < _ - c; omega
          · exact Fr.Sub.cons rfl (Fr.Sub.cons rfl (Fr.Sub.nil _))
          · exact Fr.Sub.cons rfl (Fr.Sub.cons rfl (Fr.Sub.cons rfl (Fr.Sub.nil _)))
          · exact HSub.pick 2 (by rw [List.take_add_one, hx]; simp only [Option.toList_some, List.map_append, List.map_cons, List.map_nil]; rfl) (HSub.pick 2 rfl (HSub.pick 2 rfl (HSub.pick 2 rfl (HSub.nil _))))
    · have h24 := of_decide_eq_false h24
      have hcl : c ≤ d.cross.length := hcl
      obtain rfl : c = d.cross.length := by omega
      refine RunC.exit ?_
      refine Ends.then_exit ?_
      refine Ends.then_exit ?_
      refine Ends.block_exit ?_
      refine Ends.then ?_
      refine RunC.seq ?_
      refine RunC.seq ?_
      refine RunC.region ?_
      refine RunL.still rfl rfl rfl (Still.move rfl rfl) ?_
      refine RunL.still rfl rfl rfl (Still.lenOwn rfl rfl Tryz.underlying59 (fun _ hs => hs.own (i := 0) rfl)) ?_
      refine RunL.still rfl rfl rfl (Still.eql rfl rfl rfl) ?_
      refine RunL.nil ?_
      refine Ends.then ?_
      refine RunC.cond rfl (fun h48 => ?_) (fun h48 => ?_)
      · have h48 := of_decide_eq_true h48
        refine RunC.seq ?_
        refine RunC.region ?_
        refine RunL.still rfl rfl rfl (Still.fieldAddrL (off := 0) (off' := 1) rfl rfl Tryz.underlying24 rfl Tryz.sizeOf3 rfl) ?_
        refine RunL.still rfl rfl rfl (Still.load rfl rfl Tryz.isAgg3 (fun _ hs => cell_nth (hs.at (i := 3) rfl) rfl)) ?_
        refine RunL.grows rfl rfl rfl (Grows.call (vs := #[_]) rfl rfl Tryz.call32 (fun w hs => z_ItoaP d.loops w (he.sym hs) (by omega) (by omega))) (fun _ _ => ?_)
        refine RunL.still rfl rfl rfl (Still.assign rfl rfl) ?_
        refine RunL.still rfl rfl rfl (Still.assign rfl rfl) ?_
        refine RunL.nil ?_
        refine Ends.then ?_
        refine RunC.ret ?_
        refine Ends.then_ret ?_
        refine Ends.leave (.inl rfl) (fun _ _ ok => results2 Tryz.results7 (Holds.tmp rfl) (Holds.tmp rfl) ok) (fun w1 hs => ?_)
        exact Ret.intro () trivial (by rw [textOf, if_pos (by omega)]) (HSub.nil _) hs
      · have h48 := of_decide_eq_false h48
        refine RunC.know (fun _ hs => own_open (hs.own (i := 0) rfl) (by omega)) (fun ho => ?_)
        obtain ⟨g, oc, hvv, hoc⟩ := ho
        subst hvv
        refine RunC.conv (fun _ hs => hs.re 0 rfl (show _ = HL.own 9 1 (.slice (some ⟨g, 0, none⟩) d.cross.length oc) d.cross.length (strs (d.cross.map crS)) by rw [List.take_length])) ?_
        refine RunC.skip ?_
        refine Ends.then ?_
        refine RunC.seq ?_
        refine RunC.draw 8 (.still 0 (.still 3 (.still 4 (.one 1 (.still 2 (.one 5 (.still 6 (.still 7 .done)))))))) (by kernel_rfl) (by kernel_rfl) ?_
        refine RunG.still rfl rfl rfl rfl (Still.move rfl rfl) ?_
        refine RunG.still rfl rfl rfl rfl (Still.fieldAddrL (off := 0) (off' := 1) rfl rfl Tryz.underlying24 rfl Tryz.sizeOf3 rfl) ?_
        refine RunG.still rfl rfl rfl rfl (Still.load rfl rfl Tryz.isAgg3 (fun _ hs => cell_nth (hs.at (i := 3) rfl) rfl)) ?_
        refine RunG.grows rfl rfl rfl rfl (Grows.call (vs := #[_, _]) rfl rfl Tryz.call33 (fun w hs => z_Join g oc _ (d.cross.map crS) w (by simp) (own_all (hs.own (i := 0) rfl)) (hs.supp _ (List.mem_of_getElem? (i := 0) rfl) g rfl).1 (by rw [List.length_map]; omega) (by rw [List.length_map]; omega) (crS_mid hsm))) (fun _ _ => ?_)
        refine RunG.still rfl rfl rfl rfl (Still.cat rfl rfl rfl (by have := joinS_size (crS_mid hsm); rw [List.length_map] at this; show (joinS _).size + 3 ≤ _; omega)) ?_
        refine RunG.grows rfl rfl rfl rfl (Grows.call (vs := #[_]) rfl rfl Tryz.call32 (fun w hs => z_ItoaP d.loops w (he.sym hs) (by omega) (by omega))) (fun _ _ => ?_)
        refine RunG.still rfl rfl rfl rfl (Still.cat rfl rfl rfl (by have := joinS_size (crS_mid hsm); rw [List.length_map] at this; have h2 := numS_mid hlo hsl; rw [ByteArray.size_append]; show (joinS _).size + 3 + _ ≤ _; omega)) ?_
        refine RunG.still rfl rfl rfl rfl (Still.assign rfl rfl) ?_
        refine RunG.done ?_
        show RunL _ _ _ [_] _ _
        refine RunL.still rfl rfl rfl (Still.assign rfl rfl) ?_
        refine RunL.nil ?_
        refine Ends.then ?_
        refine RunC.ret ?_
        refine Ends.leave (.inl rfl) (fun _ _ ok => results2 Tryz.results7 (Holds.tmp rfl) (Holds.tmp rfl) ok) (fun w2 hs => ?_)
        exact Ret.intro () trivial (by rw [textOf, if_neg (by omega)]; rfl) (HSub.nil _) hs

end Go.Proofs
/- Equality of diagrams by the program. -/
namespace Go.Proofs
open Go Go.V
set_option maxRecDepth 20000
theorem lib_Equal (ba bb : Option Addr) (A B : Addr) (ca cb : Nat) (a b : Dia) (w : World) (hda : DiaAt w ba A a) (hdb : DiaAt w bb B b) : Gives Tryz.prog 45 #[.slice ba a.cross.length ca, .slice bb b.cross.length cb] w Nil (fun _ : Unit => True) (fun _ => .bool (decide (a.cross = b.cross))) (fun _ => []) := by
  have hlen := hda.len
  have hlen2 := hdb.len
  refine fn_of_run (S := Nil) (args := [.slice ba a.cross.length ca, .slice bb b.cross.length cb]) (n := 26) (L := []) Tryz.func45 rfl Tryz.ntmps45 (Nat.le_of_ble_eq_true rfl) (Sym.nil _ _) ?_
  change RunC _ _ _ [(0, _), (1, _)] _
  refine RunC.seq ?_
  refine RunC.region ?_
  refine RunL.still rfl rfl rfl (Still.assign rfl rfl) ?_
  refine RunL.nil ?_
  refine Ends.then ?_
  refine RunC.seq ?_
  refine RunC.seq ?_
  refine RunC.region ?_
  refine RunL.still rfl rfl rfl (Still.move rfl rfl) ?_
  refine RunL.still rfl rfl rfl (Still.lenSlice rfl rfl Tryz.underlying22) ?_
  refine RunL.still rfl rfl rfl (Still.move rfl rfl) ?_
  refine RunL.still rfl rfl rfl (Still.lenSlice rfl rfl Tryz.underlying22) ?_
  refine RunL.still rfl rfl rfl (Still.neq rfl rfl rfl) ?_
  refine RunL.nil ?_
  refine Ends.then ?_
  refine RunC.cond rfl (fun h10 => ?_) (fun h10 => ?_)
  · have h10 := of_decide_eq_true h10
    refine RunC.seq ?_
    refine RunC.region ?_
    refine RunL.still rfl rfl rfl (Still.assign rfl rfl) ?_
    refine RunL.nil ?_
    refine Ends.then ?_
    refine RunC.ret ?_
    refine Ends.then_ret ?_
    refine Ends.leave (.inl rfl) (fun _ _ ok => results1 Tryz.results45 (Holds.tmp rfl) ok) (fun w1 hs => ?_)
    exact Ret.intro () trivial (congrArg Value.bool (decide_eq_false (fun e => by rw [e] at h10; exact h10 rfl)).symm) (HSub.nil _) hs
  · have h10 := of_decide_eq_false h10
    refine RunC.skip ?_
    refine Ends.then ?_
    refine RunC.seq ?_
    refine RunC.seq ?_
    refine RunC.region ?_
    refine RunL.still rfl rfl rfl (Still.move rfl rfl) ?_
    refine RunL.still rfl rfl rfl (Still.lenSlice rfl rfl Tryz.underlying22) ?_
    refine RunL.still rfl rfl rfl (Still.move rfl rfl) ?_
    refine RunL.nil ?_
    refine Ends.then ?_
    refine RunC.block ?_
    refine RunC.loop2 (γ := Nat) (keep := [(0, _), (1, _), (12, _)]) (hkeep := []) (fun i => i ≤ a.cross.length ∧ ∀ j, j < i → a.cross[j]? = b.cross[j]?) (fun i => a.cross.length - i) (fun i => [(13, iv i)]) (fun i => []) 0 ⟨by omega, fun j h => by omega⟩ (Fr.Sub.cons rfl (Fr.Sub.nil _)) (Fr.Sub.cons rfl (Fr.Sub.cons rfl (Fr.Sub.cons rfl (Fr.Sub.nil _)))) (HSub.nil _) ?_
    rintro i ⟨hi, he⟩
    refine RunC.seq ?_
    refine RunC.region ?_
    refine RunL.still rfl rfl rfl (Still.lss rfl rfl rfl) ?_
    refine RunL.nil ?_
    refine Ends.then ?_
    refine RunC.seq ?_
    refine RunC.cond rfl (fun h14 => ?_) (fun h14 => ?_)
    · have h14 := of_decide_eq_true h14
      obtain ⟨x, hx⟩ := get_of_lt (l := a.cross) (i := i) (by omega)
      obtain ⟨y, hy⟩ := get_of_lt (l := b.cross) (i := i) (by omega)
      refine RunC.skip ?_
      refine Ends.then ?_
      refine RunC.seq ?_
      refine RunC.block ?_
      refine RunC.seq ?_
      refine RunC.region ?_
      refine RunL.still rfl rfl rfl (Still.move rfl rfl) ?_
      refine RunL.still rfl rfl rfl (Still.assign rfl rfl) ?_
      refine RunL.nil ?_
      refine Ends.then ?_
      refine RunC.seq ?_
      refine RunC.draw 8 (.still 0 (.still 1 (.still 2 (.still 3 (.still 4 (.still 5 (.still 6 (.still 7 .done)))))))) (by kernel_rfl) (by kernel_rfl) ?_
      refine RunG.still rfl rfl rfl rfl (Still.move rfl rfl) ?_
      refine RunG.still rfl rfl rfl rfl (Still.move rfl rfl) ?_
      refine RunG.still rfl rfl rfl rfl (Still.indexSliceN rfl rfl rfl Tryz.underlying22 Tryz.sizeOf62 (hda.base (by omega)) (by omega)) ?_
      refine RunG.still rfl rfl rfl rfl (Still.loads rfl rfl Tryz.isAgg62 Tryz.sizeOf62 (vs := [iv x.a0, iv x.a1, iv x.a2, iv x.a3, iv x.s]) rfl (fun _ hs => Cells.base0 (hda.cross hx) hs)) ?_
      refine RunG.still rfl rfl rfl rfl (Still.move rfl rfl) ?_
      refine RunG.still rfl rfl rfl rfl (Still.move rfl rfl) ?_
      refine RunG.still rfl rfl rfl rfl (Still.indexSliceN rfl rfl rfl Tryz.underlying22 Tryz.sizeOf62 (hdb.base (by omega)) (by omega)) ?_
      refine RunG.still rfl rfl rfl rfl (Still.loads rfl rfl Tryz.isAgg62 Tryz.sizeOf62 (vs := [iv y.a0, iv y.a1, iv y.a2, iv y.a3, iv y.s]) rfl (fun _ hs => Cells.base0 (hdb.cross hy) hs)) ?_
      refine RunG.done ?_
      show RunL _ _ _ [_] _ _
      refine RunL.still rfl rfl rfl (Still.neqAgg rfl rfl rfl Tryz.eqGuardType62 (fun _ => eq69 _ _ _ _ _ _ _ _ _ _ _)) ?_
      refine RunL.nil ?_
      refine Ends.then ?_
      refine RunC.cond rfl (fun h24 => ?_) (fun h24 => ?_)
      · skip
        refine RunC.seq ?_
        refine RunC.region ?_
        refine RunL.still rfl rfl rfl (Still.assign rfl rfl) ?_
        refine RunL.nil ?_
        refine Ends.then ?_
        refine RunC.ret ?_
        refine Ends.block_ret ?_
        refine Ends.then_ret ?_
        refine Ends.then_ret ?_
        refine Ends.block_ret ?_
        refine Ends.then_ret ?_
        refine Ends.leave (.inl rfl) (fun _ _ ok => results1 Tryz.results45 (Holds.tmp rfl) ok) (fun w2 hs => ?_)
        exact Ret.intro () trivial (congrArg Value.bool (decide_eq_false (fun e => by rw [e, hy] at hx; cases hx; simp at h24)).symm) (HSub.nil _) hs
      · skip
        refine RunC.skip ?_
        refine Ends.block ?_
        refine Ends.then ?_
        refine RunC.region ?_
        refine RunL.still rfl rfl rfl (Still.add rfl rfl rfl (fits64 (by omega) (by omega))) ?_
        refine RunL.still rfl rfl rfl (Still.move rfl rfl) ?_
        refine RunL.nil ?_
        have hxy : x = y := by obtain ⟨x0, x1, x2, x3, xs⟩ := x; obtain ⟨y0, y1, y2, y3, ys⟩ := y; simp at h24; simp [h24]
        refine Ends.again (i + 1) ?_ ?_ (Fr.Sub.app ?_ ?_) ?_
        · exact ⟨by omega, fun j h => by rcases Nat.lt_or_ge j i with h2 | h2; exact he j h2; obtain rfl : j = i := (by omega); rw [hx, hy, hxy]⟩
        · show _ < _; omega
        · exact Fr.Sub.cons rfl (Fr.Sub.nil _)
        · exact Fr.Sub.cons rfl (Fr.Sub.cons rfl (Fr.Sub.cons rfl (Fr.Sub.nil _)))
        · exact HSub.nil _
    · have h14 := of_decide_eq_false h14
      refine RunC.exit ?_
      refine Ends.then_exit ?_
      refine Ends.then_exit ?_
      refine Ends.block_exit ?_
      refine Ends.then ?_
      refine RunC.seq ?_
      refine RunC.region ?_
      refine RunL.still rfl rfl rfl (Still.assign rfl rfl) ?_
      refine RunL.nil ?_
      refine Ends.then ?_
      refine RunC.ret ?_
      refine Ends.leave (.inl rfl) (fun _ _ ok => results1 Tryz.results45 (Holds.tmp rfl) ok) (fun w3 hs => ?_)
      exact Ret.intro () trivial (congrArg Value.bool (decide_eq_true (List.ext_getElem? fun j => (by rcases Nat.lt_or_ge j a.cross.length with h | h; exact he j (by omega); rw [List.getElem?_eq_none (by omega), List.getElem?_eq_none (by omega)]))).symm) (HSub.nil _) hs

theorem dg_Same (ba bb : Option Addr) (A B : Addr) (ca cb : Nat) (a b : Dia) (w : World) (hda : DiaAt w ba A a) (hdb : DiaAt w bb B b) : Gives Tryz.prog 14 #[diaV ba ca a, diaV bb cb b] w Nil (fun _ : Unit => True) (fun _ => .bool (decide (a = b))) (fun _ => []) := by
  refine fn_of_run (S := Nil) (args := [diaV ba ca a, diaV bb cb b]) (n := 17) (L := []) Tryz.func14 rfl Tryz.ntmps14 (Nat.le_of_ble_eq_true rfl) (Sym.nil _ _) ?_
  change RunC _ _ _ [(0, _), (1, _)] _
  refine RunC.seq ?_
  refine RunC.region ?_
  refine RunL.grows rfl rfl rfl (Grows.box rfl rfl) (fun b2 _ => ?_)
  refine RunL.grows rfl rfl rfl (Grows.box rfl rfl) (fun b3 _ => ?_)
  refine RunL.still rfl rfl rfl (Still.assign rfl rfl) ?_
  refine RunL.nil ?_
  refine Ends.then ?_
  refine RunC.seq ?_
  refine RunC.region ?_
  refine RunL.still rfl rfl rfl (Still.fieldAddrL (off := 0) (off' := 1) rfl rfl Tryz.underlying24 rfl Tryz.sizeOf3 rfl) ?_
  refine RunL.still rfl rfl rfl (Still.load rfl rfl Tryz.isAgg3 (fun _ hs => cell_nth (hs.at (i := 1) rfl) rfl)) ?_
  refine RunL.still rfl rfl rfl (Still.fieldAddrL (off := 0) (off' := 1) rfl rfl Tryz.underlying24 rfl Tryz.sizeOf3 rfl) ?_
  refine RunL.still rfl rfl rfl (Still.load rfl rfl Tryz.isAgg3 (fun _ hs => cell_nth (hs.at (i := 0) rfl) rfl)) ?_
  refine RunL.still rfl rfl rfl (Still.eql rfl rfl rfl) ?_
  refine RunL.still rfl rfl rfl (Still.move rfl rfl) ?_
  refine RunL.split (t := 10) rfl (fun h10 => ?_) (fun h10 => ?_)
  · have h10 := of_decide_eq_true h10
    refine RunL.still rfl rfl rfl (Still.fieldAddrL (off := 0) (off' := 0) rfl rfl Tryz.underlying24 rfl Tryz.sizeOf22 rfl) ?_
    refine RunL.still rfl rfl rfl (Still.load rfl rfl Tryz.isAgg22 (fun _ hs => cell_nth (hs.at (i := 1) rfl) rfl)) ?_
    refine RunL.still rfl rfl rfl (Still.fieldAddrL (off := 0) (off' := 0) rfl rfl Tryz.underlying24 rfl Tryz.sizeOf22 rfl) ?_
    refine RunL.still rfl rfl rfl (Still.load rfl rfl Tryz.isAgg22 (fun _ hs => cell_nth (hs.at (i := 0) rfl) rfl)) ?_
    refine RunL.grows rfl rfl rfl (Grows.call (vs := #[_, _]) rfl rfl Tryz.call45 (fun w hs => lib_Equal ba bb A B ca cb a b w (hda.sym hs) (hdb.sym hs))) (fun _ _ => ?_)
    refine RunL.still rfl rfl rfl (Still.pickT rfl rfl rfl) ?_
    refine RunL.still rfl rfl rfl (Still.assign rfl rfl) ?_
    refine RunL.nil ?_
    refine Ends.then ?_
    refine RunC.ret ?_
    refine Ends.leave (.inl rfl) (fun _ _ ok => results1 Tryz.results14 (Holds.tmp rfl) ok) (fun w1 hs => ?_)
    exact Ret.intro () trivial (congrArg Value.bool (by obtain ⟨ac, al⟩ := a; obtain ⟨bc, bl⟩ := b; exact decide_eq_decide.2 ⟨fun e => by simp at h10 e ⊢; exact ⟨e, h10⟩, fun e => by simp at e; exact e.1⟩)) (HSub.nil _) hs
  · have h10 := of_decide_eq_false h10
    refine RunL.off rfl rfl rfl ?_
    refine RunL.off rfl rfl rfl ?_
    refine RunL.off rfl rfl rfl ?_
    refine RunL.off rfl rfl rfl ?_
    refine RunL.off rfl rfl rfl ?_
    refine RunL.still rfl rfl rfl (Still.pickF rfl rfl rfl) ?_
    refine RunL.still rfl rfl rfl (Still.assign rfl rfl) ?_
    refine RunL.nil ?_
    refine Ends.then ?_
    refine RunC.ret ?_
    refine Ends.leave (.inl rfl) (fun _ _ ok => results1 Tryz.results14 (Holds.tmp rfl) ok) (fun w2 hs => ?_)
    exact Ret.intro () trivial (congrArg Value.bool (decide_eq_false (fun e => h10 (by rw [e]))).symm) (HSub.nil _) hs

end Go.Proofs
