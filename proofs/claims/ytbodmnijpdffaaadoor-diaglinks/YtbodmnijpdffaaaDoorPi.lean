/- The statement DiagLinks, walked. -/
import Derived.Test.YtbodmnijpdffaaaDoorPh
import Derived.Test.YtbodmnijpdffaaaDoorDv
import Derived.Test.YtbodmnijpdffaaaDoorProg
import Derived.KernelRfl
namespace Go.Proofs
open Go Go.V
set_option maxRecDepth 20000
theorem lw_DiagLinks_big (base : Option Addr) (cap : Nat) (d : Dia) (i j : Int) (w : World)  (hl : 20 < d.cross.length ∧ d.cross.length ≤ 200) : Gives Tryd.prog 5 #[diaV base cap d, iv i, iv j] w Nil (fun _ : Unit => True) (fun _ => .bool true) (fun _ => []) := by
  refine fn_of_run (S := Nil) (args := [diaV base cap d, iv i, iv j]) (n := 240) (L := []) Tryd.func5 rfl Tryd.ntmps5 (Nat.le_of_ble_eq_true rfl) (Sym.nil _ _) ?_
  change RunC _ _ _ [(0, _), (1, _), (2, _)] _
  refine RunC.seq ?_
  refine RunC.region ?_
  refine RunL.grows rfl rfl rfl (Grows.box rfl rfl) (fun b3 _ => ?_)
  refine RunL.still rfl rfl rfl (Still.assign rfl rfl) ?_
  refine RunL.nil ?_
  refine Ends.then ?_
  refine RunC.seq ?_
  refine RunC.seq ?_
  refine RunC.region ?_
  refine RunL.still rfl rfl rfl (Still.loads rfl rfl Tryd.isAgg24 Tryd.sizeOf24 (vs := [_, _]) rfl (fun _ hs => cells_nth (hs.at (i := 0) rfl) ⟨rfl, ⟨rfl, trivial⟩⟩)) ?_
  refine RunL.grows rfl rfl rfl (Grows.call (vs := #[_]) rfl rfl Tryd.call7 (fun w hs => lw_large base cap d w)) (fun _ _ => ?_)
  refine RunL.again (t := 36) (u := .bool true) rfl (congrArg Value.bool (decide_eq_true hl)) ?_
  refine RunL.nil ?_
  refine Ends.then ?_
  refine RunC.cond_true rfl ?_
  refine RunC.seq ?_
  refine RunC.region ?_
  refine RunL.still rfl rfl rfl (Still.assign rfl rfl) ?_
  refine RunL.nil ?_
  refine Ends.then ?_
  refine RunC.ret ?_
  refine Ends.then_ret ?_
  refine Ends.leave (.inl rfl) (fun _ _ ok => results1 Tryd.results5 (Holds.tmp rfl) ok) (fun w1 hs => ?_)
  exact Ret.intro () trivial rfl (HSub.nil _) hs

theorem lw_DiagLinks_bad (base : Option Addr) (A : Addr) (cap : Nat) (d : Dia) (i j : Int) (w : World) (hd : DiaAt w base A d) (hl : ¬ (20 < d.cross.length ∧ d.cross.length ≤ 200)) (hc : checkI d ≠ 0) : Gives Tryd.prog 5 #[diaV base cap d, iv i, iv j] w Nil (fun _ : Unit => True) (fun _ => .bool true) (fun _ => []) := by
  refine fn_of_run (S := Nil) (args := [diaV base cap d, iv i, iv j]) (n := 240) (L := []) Tryd.func5 rfl Tryd.ntmps5 (Nat.le_of_ble_eq_true rfl) (Sym.nil _ _) ?_
  change RunC _ _ _ [(0, _), (1, _), (2, _)] _
  refine RunC.seq ?_
  refine RunC.region ?_
  refine RunL.grows rfl rfl rfl (Grows.box rfl rfl) (fun b3 _ => ?_)
  refine RunL.still rfl rfl rfl (Still.assign rfl rfl) ?_
  refine RunL.nil ?_
  refine Ends.then ?_
  refine RunC.seq ?_
  refine RunC.seq ?_
  refine RunC.region ?_
  refine RunL.still rfl rfl rfl (Still.loads rfl rfl Tryd.isAgg24 Tryd.sizeOf24 (vs := [_, _]) rfl (fun _ hs => cells_nth (hs.at (i := 0) rfl) ⟨rfl, ⟨rfl, trivial⟩⟩)) ?_
  refine RunL.grows rfl rfl rfl (Grows.call (vs := #[_]) rfl rfl Tryd.call7 (fun w hs => lw_large base cap d w)) (fun _ _ => ?_)
  refine RunL.again (t := 36) (u := .bool false) rfl (congrArg Value.bool (decide_eq_false hl)) ?_
  refine RunL.nil ?_
  refine Ends.then ?_
  refine RunC.cond_false rfl ?_
  refine RunC.skip ?_
  refine Ends.then ?_
  refine RunC.seq ?_
  refine RunC.region ?_
  refine RunL.still rfl rfl rfl (Still.loads rfl rfl Tryd.isAgg24 Tryd.sizeOf24 (vs := [_, _]) rfl (fun _ hs => cells_nth (hs.at (i := 0) rfl) ⟨rfl, ⟨rfl, trivial⟩⟩)) ?_
  refine RunL.still rfl rfl rfl (Still.move rfl rfl) ?_
  refine RunL.still rfl rfl rfl (Still.move rfl rfl) ?_
  refine RunL.grows rfl rfl rfl (Grows.call (vs := #[_, _, _]) rfl rfl Tryd.call27 (fun w hs => dg_Linking_bad base A cap d i j w (hd.sym hs) hc)) (fun _ _ => ?_)
  refine RunL.still rfl rfl rfl (Still.move rfl rfl) ?_
  refine RunL.still rfl rfl rfl (Still.extractN rfl rfl rfl) ?_
  refine RunL.still rfl rfl rfl (Still.extractN rfl rfl rfl) ?_
  refine RunL.still rfl rfl rfl (Still.assign rfl rfl) ?_
  refine RunL.still rfl rfl rfl (Still.assign rfl rfl) ?_
  refine RunL.nil ?_
  refine Ends.then ?_
  refine RunC.seq ?_
  refine RunC.seq ?_
  refine RunC.region ?_
  refine RunL.still rfl rfl rfl (Still.loads rfl rfl Tryd.isAgg24 Tryd.sizeOf24 (vs := [_, _]) rfl (fun _ hs => cells_nth (hs.at (i := 0) rfl) ⟨rfl, ⟨rfl, trivial⟩⟩)) ?_
  refine RunL.grows rfl rfl rfl (Grows.call (vs := #[_]) rfl rfl Tryd.call8 (fun w hs => ref_Check base A cap d w (hd.sym hs))) (fun _ _ => ?_)
  refine RunL.still rfl rfl rfl (Still.assign rfl rfl) ?_
  refine RunL.nil ?_
  refine Ends.then ?_
  refine RunC.seq ?_
  refine RunC.region ?_
  refine RunL.still rfl rfl rfl (Still.move rfl rfl) ?_
  refine RunL.still rfl rfl rfl (Still.neq rfl rfl rfl) ?_
  refine RunL.again (t := 47) (u := .bool true) rfl (congrArg Value.bool (decide_eq_true (hc))) ?_
  refine RunL.nil ?_
  refine Ends.then ?_
  refine RunC.cond_true rfl ?_
  refine RunC.seq ?_
  refine RunC.region ?_
  refine RunL.grows rfl rfl rfl (Grows.call (vs := #[]) rfl rfl Tryd.call13 (fun w hs => lw_sane w)) (fun _ _ => ?_)
  refine RunL.again (t := 48) (u := .bool true) rfl (rfl) ?_
  refine RunL.still rfl rfl rfl (Still.move rfl rfl) ?_
  refine RunL.still rfl rfl rfl (Still.move rfl rfl) ?_
  refine RunL.still rfl rfl rfl (Still.move rfl rfl) ?_
  refine RunL.still rfl rfl rfl (Still.eql rfl rfl rfl) ?_
  refine RunL.again (t := 52) (u := .bool true) rfl (congrArg Value.bool (decide_eq_true (rfl))) ?_
  refine RunL.still rfl rfl rfl (Still.pickT rfl rfl rfl) ?_
  refine RunL.still rfl rfl rfl (Still.move rfl rfl) ?_
  refine RunL.still rfl rfl rfl (Still.move rfl rfl) ?_
  refine RunL.still rfl rfl rfl (Still.eql rfl rfl rfl) ?_
  refine RunL.again (t := 56) (u := .bool true) rfl (rfl) ?_
  refine RunL.still rfl rfl rfl (Still.pickT rfl rfl rfl) ?_
  refine RunL.still rfl rfl rfl (Still.assign rfl rfl) ?_
  refine RunL.nil ?_
  refine Ends.then ?_
  refine RunC.ret ?_
  refine Ends.then_ret ?_
  refine Ends.leave (.inl rfl) (fun _ _ ok => results1 Tryd.results5 (Holds.tmp rfl) ok) (fun w1 hs => ?_)
  exact Ret.intro () trivial rfl (HSub.nil _) hs

theorem dg_Rev_len (base : Option Addr) (A : Addr) (cap : Nat) (d : Dia) (lb : Option Addr) (LA : Addr) (lc n : Nat) (xs : List Int) (w : World) (hn : xs.length = n) (hd : DiaAt w base A d) (hxs : IntsAt w lb LA lc xs) (hc : checkI d = 0) (hD : distB xs ((compCount d : Int) + d.loops) = true) : Gives Tryd.prog 21 #[diaV base cap d, .slice lb n lc] w Nil (fun q : Option Addr × Nat => OKB q (revD d xs).cross.length) (fun q => .tuple #[diaV q.1 q.2 (revD d xs), iv 0]) (fun q => [ownD q (revD d xs)]) := by
  subst hn
  exact dg_Rev_ok base A cap d lb LA lc xs w hd hxs (by have := hxs.le; have := hxs.len; omega) hc hD

theorem own_upTo {w : World} {b : Option Addr} {c n : Nat} (h : w.ownsRow 0 3 1 (.slice b n c) n (ints (upTo n))) : IntsAt w b (vaddr (.slice b n c)) c (upTo n) := by
  have e := upTo_len n
  have := IntsAt.of_own (b := b) (c := c) (xs := upTo n) (by rw [e]; exact h)
  rwa [e] at this

theorem lw_DiagLinks_ok (base : Option Addr) (A : Addr) (cap : Nat) (d : Dia) (i j : Int) (w : World) (hd : DiaAt w base A d) (hl : ¬ (20 < d.cross.length ∧ d.cross.length ≤ 200)) (hc : checkI d = 0) : Gives Tryd.prog 5 #[diaV base cap d, iv i, iv j] w Nil (fun _ : Unit => True) (fun _ => .bool true) (fun _ => []) := by
  obtain ⟨hS, hPl⟩ := checkI_ok.1 hc
  have h200 := hS.1
  have hlo := hS.2.1
  have hlo2 := hS.2.2.1
  have hM := mir_sound hS
  have hF := ref_sound hS
  have hV := rev_sound hS [i]
  have hA := rev_sound hS (upTo (compCount d + d.loops.toNat))
  have hcM := checkI_of hM (mir_planar hS hPl)
  have hcF := checkI_of hF (ref_planar hS hPl)
  have hcV := checkI_of hV (rev_planar hS [i] hPl)
  have hcA := checkI_of hA (rev_planar hS (upTo (compCount d + d.loops.toNat)) hPl)
  have hcc := compTo_le (nextN d) (2 * d.cross.length) (2 * d.cross.length)
  rw [← compCount] at hcc
  have hDA : distB (upTo (compCount d + d.loops.toNat)) ((compCount d : Int) + d.loops) = true := by have h := upTo_dist (compCount d + d.loops.toNat); rwa [show (((compCount d + d.loops.toNat) : Nat) : Int) = (compCount d : Int) + d.loops by omega] at h
  have hlb := linkR_bound hS i j
  have hwb := writhe_bound hS
  refine fn_of_run (S := Nil) (args := [diaV base cap d, iv i, iv j]) (n := 240) (L := []) Tryd.func5 rfl Tryd.ntmps5 (Nat.le_of_ble_eq_true rfl) (Sym.nil _ _) ?_
  change RunC _ _ _ [(0, _), (1, _), (2, _)] _
  refine RunC.seq ?_
  refine RunC.region ?_
  refine RunL.grows rfl rfl rfl (Grows.box rfl rfl) (fun b3 _ => ?_)
  refine RunL.still rfl rfl rfl (Still.assign rfl rfl) ?_
  refine RunL.nil ?_
  refine Ends.then ?_
  refine RunC.seq ?_
  refine RunC.seq ?_
  refine RunC.region ?_
  refine RunL.still rfl rfl rfl (Still.loads rfl rfl Tryd.isAgg24 Tryd.sizeOf24 (vs := [_, _]) rfl (fun _ hs => cells_nth (hs.at (i := 0) rfl) ⟨rfl, ⟨rfl, trivial⟩⟩)) ?_
  refine RunL.grows rfl rfl rfl (Grows.call (vs := #[_]) rfl rfl Tryd.call7 (fun w hs => lw_large base cap d w)) (fun _ _ => ?_)
  refine RunL.again (t := 36) (u := .bool false) rfl (congrArg Value.bool (decide_eq_false hl)) ?_
  refine RunL.nil ?_
  refine Ends.then ?_
  refine RunC.cond_false rfl ?_
  refine RunC.skip ?_
  refine Ends.then ?_
  refine RunC.seq ?_
  refine RunC.region ?_
  refine RunL.still rfl rfl rfl (Still.loads rfl rfl Tryd.isAgg24 Tryd.sizeOf24 (vs := [_, _]) rfl (fun _ hs => cells_nth (hs.at (i := 0) rfl) ⟨rfl, ⟨rfl, trivial⟩⟩)) ?_
  refine RunL.still rfl rfl rfl (Still.move rfl rfl) ?_
  refine RunL.still rfl rfl rfl (Still.move rfl rfl) ?_
  refine RunL.grows rfl rfl rfl (Grows.call (vs := #[_, _, _]) rfl rfl Tryd.call27 (fun w hs => dg_Linking_ok base A cap d i j w (hd.sym hs) hc)) (fun _ _ => ?_)
  refine RunL.still rfl rfl rfl (Still.move rfl rfl) ?_
  refine RunL.still rfl rfl rfl (Still.extractN rfl rfl rfl) ?_
  refine RunL.still rfl rfl rfl (Still.extractN rfl rfl rfl) ?_
  refine RunL.still rfl rfl rfl (Still.assign rfl rfl) ?_
  refine RunL.still rfl rfl rfl (Still.assign rfl rfl) ?_
  refine RunL.nil ?_
  refine Ends.then ?_
  refine RunC.seq ?_
  refine RunC.seq ?_
  refine RunC.region ?_
  refine RunL.still rfl rfl rfl (Still.loads rfl rfl Tryd.isAgg24 Tryd.sizeOf24 (vs := [_, _]) rfl (fun _ hs => cells_nth (hs.at (i := 0) rfl) ⟨rfl, ⟨rfl, trivial⟩⟩)) ?_
  refine RunL.grows rfl rfl rfl (Grows.call (vs := #[_]) rfl rfl Tryd.call8 (fun w hs => ref_Check_ok base A cap d w (hd.sym hs) hc)) (fun _ _ => ?_)
  refine RunL.still rfl rfl rfl (Still.assign rfl rfl) ?_
  refine RunL.nil ?_
  refine Ends.then ?_
  refine RunC.seq ?_
  refine RunC.region ?_
  refine RunL.still rfl rfl rfl (Still.move rfl rfl) ?_
  refine RunL.still rfl rfl rfl (Still.neq rfl rfl rfl) ?_
  refine RunL.again (t := 47) (u := .bool false) rfl (rfl) ?_
  refine RunL.nil ?_
  refine Ends.then ?_
  refine RunC.cond_false rfl ?_
  refine RunC.skip ?_
  refine Ends.then ?_
  refine RunC.seq ?_
  refine RunC.region ?_
  refine RunL.still rfl rfl rfl (Still.loads rfl rfl Tryd.isAgg24 Tryd.sizeOf24 (vs := [_, _]) rfl (fun _ hs => cells_nth (hs.at (i := 0) rfl) ⟨rfl, ⟨rfl, trivial⟩⟩)) ?_
  refine RunL.grows rfl rfl rfl (Grows.call (vs := #[_]) rfl rfl Tryd.call17 (fun w hs => ref_Count' base A cap d w (hd.sym hs) hS)) (fun _ _ => ?_)
  refine RunL.still rfl rfl rfl (Still.assign rfl rfl) ?_
  refine RunL.nil ?_
  refine Ends.then ?_
  refine RunC.seq ?_
  refine RunC.seq ?_
  refine RunC.meet1 (chg := [(80, .bool (decide (i < 0 ∨ j < 0 ∨ (compCount d : Int) + d.loops ≤ i ∨ (compCount d : Int) + d.loops ≤ j ∨ i = j)))]) (keep := [(1, _), (2, _), (3, _), (7, _), (8, _), (10, _)]) (hkeep := [_]) (Fr.Sub.cons rfl (Fr.Sub.cons rfl (Fr.Sub.cons rfl (Fr.Sub.cons rfl (Fr.Sub.cons rfl (Fr.Sub.cons rfl (Fr.Sub.nil _))))))) (HSub.pick 0 rfl (HSub.nil _)) ?_ ?_
  ·
    refine RunC.region ?_
    refine RunL.still rfl rfl rfl (Still.move rfl rfl) ?_
    refine RunL.still rfl rfl rfl (Still.lss rfl rfl rfl) ?_
    refine RunL.still rfl rfl rfl (Still.move rfl rfl) ?_
    refine RunL.split (t := 62) rfl (fun h62 => ?_) (fun h62 => ?_)
    · have h62 := of_decide_eq_true h62
      refine RunL.off rfl rfl rfl ?_
      refine RunL.off rfl rfl rfl ?_
      refine RunL.still rfl rfl rfl (Still.pickT rfl rfl rfl) ?_
      refine RunL.still rfl rfl rfl (Still.move rfl rfl) ?_
      refine RunL.off rfl rfl rfl ?_
      refine RunL.off rfl rfl rfl ?_
      refine RunL.off rfl rfl rfl ?_
      refine RunL.still rfl rfl rfl (Still.pickT rfl rfl rfl) ?_
      refine RunL.still rfl rfl rfl (Still.move rfl rfl) ?_
      refine RunL.off rfl rfl rfl ?_
      refine RunL.off rfl rfl rfl ?_
      refine RunL.off rfl rfl rfl ?_
      refine RunL.still rfl rfl rfl (Still.pickT rfl rfl rfl) ?_
      refine RunL.still rfl rfl rfl (Still.move rfl rfl) ?_
      refine RunL.off rfl rfl rfl ?_
      refine RunL.off rfl rfl rfl ?_
      refine RunL.off rfl rfl rfl ?_
      refine RunL.still rfl rfl rfl (Still.pickT rfl rfl rfl) ?_
      refine RunL.nil ?_
      exact Ends.meet1 (Fr.Sub.cons (by first | exact congrArg (fun b => some (Value.bool b)) (decide_eq_true (by omega)).symm | exact congrArg (fun b => some (Value.bool b)) (decide_eq_false (by omega)).symm | exact congrArg (fun b => some (Value.bool b)) (decide_eq_decide.2 (by omega))) (Fr.Sub.nil _)) (Fr.Sub.cons rfl (Fr.Sub.cons rfl (Fr.Sub.cons rfl (Fr.Sub.cons rfl (Fr.Sub.cons rfl (Fr.Sub.cons rfl (Fr.Sub.nil _))))))) (HSub.pick 0 rfl (HSub.nil _))
    · have h62 := of_decide_eq_false h62
      refine RunL.still rfl rfl rfl (Still.move rfl rfl) ?_
      refine RunL.still rfl rfl rfl (Still.lss rfl rfl rfl) ?_
      refine RunL.still rfl rfl rfl (Still.pickF rfl rfl rfl) ?_
      refine RunL.still rfl rfl rfl (Still.move rfl rfl) ?_
      refine RunL.split (t := 66) rfl (fun h66 => ?_) (fun h66 => ?_)
      · have h66 := of_decide_eq_true h66
        refine RunL.off rfl rfl rfl ?_
        refine RunL.off rfl rfl rfl ?_
        refine RunL.off rfl rfl rfl ?_
        refine RunL.still rfl rfl rfl (Still.pickT rfl rfl rfl) ?_
        refine RunL.still rfl rfl rfl (Still.move rfl rfl) ?_
        refine RunL.off rfl rfl rfl ?_
        refine RunL.off rfl rfl rfl ?_
        refine RunL.off rfl rfl rfl ?_
        refine RunL.still rfl rfl rfl (Still.pickT rfl rfl rfl) ?_
        refine RunL.still rfl rfl rfl (Still.move rfl rfl) ?_
        refine RunL.off rfl rfl rfl ?_
        refine RunL.off rfl rfl rfl ?_
        refine RunL.off rfl rfl rfl ?_
        refine RunL.still rfl rfl rfl (Still.pickT rfl rfl rfl) ?_
        refine RunL.nil ?_
        exact Ends.meet1 (Fr.Sub.cons (by first | exact congrArg (fun b => some (Value.bool b)) (decide_eq_true (by omega)).symm | exact congrArg (fun b => some (Value.bool b)) (decide_eq_false (by omega)).symm | exact congrArg (fun b => some (Value.bool b)) (decide_eq_decide.2 (by omega))) (Fr.Sub.nil _)) (Fr.Sub.cons rfl (Fr.Sub.cons rfl (Fr.Sub.cons rfl (Fr.Sub.cons rfl (Fr.Sub.cons rfl (Fr.Sub.cons rfl (Fr.Sub.nil _))))))) (HSub.pick 0 rfl (HSub.nil _))
      · have h66 := of_decide_eq_false h66
        refine RunL.still rfl rfl rfl (Still.move rfl rfl) ?_
        refine RunL.still rfl rfl rfl (Still.move rfl rfl) ?_
        refine RunL.still rfl rfl rfl (Still.geq rfl rfl rfl) ?_
        refine RunL.still rfl rfl rfl (Still.pickF rfl rfl rfl) ?_
        refine RunL.still rfl rfl rfl (Still.move rfl rfl) ?_
        refine RunL.split (t := 71) rfl (fun h71 => ?_) (fun h71 => ?_)
        · have h71 := of_decide_eq_true h71
          refine RunL.off rfl rfl rfl ?_
          refine RunL.off rfl rfl rfl ?_
          refine RunL.off rfl rfl rfl ?_
          refine RunL.still rfl rfl rfl (Still.pickT rfl rfl rfl) ?_
          refine RunL.still rfl rfl rfl (Still.move rfl rfl) ?_
          refine RunL.off rfl rfl rfl ?_
          refine RunL.off rfl rfl rfl ?_
          refine RunL.off rfl rfl rfl ?_
          refine RunL.still rfl rfl rfl (Still.pickT rfl rfl rfl) ?_
          refine RunL.nil ?_
          exact Ends.meet1 (Fr.Sub.cons (by first | exact congrArg (fun b => some (Value.bool b)) (decide_eq_true (by omega)).symm | exact congrArg (fun b => some (Value.bool b)) (decide_eq_false (by omega)).symm | exact congrArg (fun b => some (Value.bool b)) (decide_eq_decide.2 (by omega))) (Fr.Sub.nil _)) (Fr.Sub.cons rfl (Fr.Sub.cons rfl (Fr.Sub.cons rfl (Fr.Sub.cons rfl (Fr.Sub.cons rfl (Fr.Sub.cons rfl (Fr.Sub.nil _))))))) (HSub.pick 0 rfl (HSub.nil _))
        · have h71 := of_decide_eq_false h71
          refine RunL.still rfl rfl rfl (Still.move rfl rfl) ?_
          refine RunL.still rfl rfl rfl (Still.move rfl rfl) ?_
          refine RunL.still rfl rfl rfl (Still.geq rfl rfl rfl) ?_
          refine RunL.still rfl rfl rfl (Still.pickF rfl rfl rfl) ?_
          refine RunL.still rfl rfl rfl (Still.move rfl rfl) ?_
          refine RunL.split (t := 76) rfl (fun h76 => ?_) (fun h76 => ?_)
          · have h76 := of_decide_eq_true h76
            refine RunL.off rfl rfl rfl ?_
            refine RunL.off rfl rfl rfl ?_
            refine RunL.off rfl rfl rfl ?_
            refine RunL.still rfl rfl rfl (Still.pickT rfl rfl rfl) ?_
            refine RunL.nil ?_
            exact Ends.meet1 (Fr.Sub.cons (by first | exact congrArg (fun b => some (Value.bool b)) (decide_eq_true (by omega)).symm | exact congrArg (fun b => some (Value.bool b)) (decide_eq_false (by omega)).symm | exact congrArg (fun b => some (Value.bool b)) (decide_eq_decide.2 (by omega))) (Fr.Sub.nil _)) (Fr.Sub.cons rfl (Fr.Sub.cons rfl (Fr.Sub.cons rfl (Fr.Sub.cons rfl (Fr.Sub.cons rfl (Fr.Sub.cons rfl (Fr.Sub.nil _))))))) (HSub.pick 0 rfl (HSub.nil _))
          · have h76 := of_decide_eq_false h76
            refine RunL.still rfl rfl rfl (Still.move rfl rfl) ?_
            refine RunL.still rfl rfl rfl (Still.move rfl rfl) ?_
            refine RunL.still rfl rfl rfl (Still.eql rfl rfl rfl) ?_
            refine RunL.still rfl rfl rfl (Still.pickF rfl rfl rfl) ?_
            refine RunL.nil ?_
            exact Ends.meet1 (Fr.Sub.cons (by first | exact congrArg (fun b => some (Value.bool b)) (decide_eq_true (by omega)).symm | exact congrArg (fun b => some (Value.bool b)) (decide_eq_false (by omega)).symm | exact congrArg (fun b => some (Value.bool b)) (decide_eq_decide.2 (by omega))) (Fr.Sub.nil _)) (Fr.Sub.cons rfl (Fr.Sub.cons rfl (Fr.Sub.cons rfl (Fr.Sub.cons rfl (Fr.Sub.cons rfl (Fr.Sub.cons rfl (Fr.Sub.nil _))))))) (HSub.pick 0 rfl (HSub.nil _))
  ·
    refine Ends.then ?_
    refine RunC.cond rfl (fun h80 => ?_) (fun h80 => ?_)
    · have h80 := of_decide_eq_true h80
      have h80 : LinkBad d i j := h80
      refine RunC.seq ?_
      refine RunC.region ?_
      refine RunL.grows rfl rfl rfl (Grows.call (vs := #[]) rfl rfl Tryd.call13 (fun w hs => lw_sane w)) (fun _ _ => ?_)
      refine RunL.again (t := 81) (u := .bool true) rfl (rfl) ?_
      refine RunL.still rfl rfl rfl (Still.move rfl rfl) ?_
      refine RunL.still rfl rfl rfl (Still.move rfl rfl) ?_
      refine RunL.still rfl rfl rfl (Still.eql rfl rfl rfl) ?_
      refine RunL.again (t := 84) (u := .bool true) rfl (congrArg Value.bool (decide_eq_true (if_pos h80))) ?_
      refine RunL.still rfl rfl rfl (Still.pickT rfl rfl rfl) ?_
      refine RunL.still rfl rfl rfl (Still.move rfl rfl) ?_
      refine RunL.still rfl rfl rfl (Still.move rfl rfl) ?_
      refine RunL.still rfl rfl rfl (Still.eql rfl rfl rfl) ?_
      refine RunL.again (t := 88) (u := .bool true) rfl (congrArg Value.bool (decide_eq_true (if_pos h80))) ?_
      refine RunL.still rfl rfl rfl (Still.pickT rfl rfl rfl) ?_
      refine RunL.still rfl rfl rfl (Still.assign rfl rfl) ?_
      refine RunL.nil ?_
      refine Ends.then ?_
      refine RunC.ret ?_
      refine Ends.then_ret ?_
      refine Ends.leave (.inl rfl) (fun _ _ ok => results1 Tryd.results5 (Holds.tmp rfl) ok) (fun w1 hs => ?_)
      exact Ret.intro () trivial rfl (HSub.nil _) hs
    · have h80 := of_decide_eq_false h80
      have h80 : ¬ LinkBad d i j := h80
      have hij : i ≠ j := fun e => h80 (.inr (.inr (.inr (.inr e))))
      have hD1 : distB [i] ((compCount d : Int) + d.loops) = true := one_dist (Int.not_lt.1 fun e => h80 (.inl e)) (Int.not_le.1 fun e => h80 (.inr (.inr (.inl e))))
      have bM := linkBad_of (mir_comp hS).2 rfl h80
      have bF := linkBad_of (ref_comp hS).2 rfl h80
      have bV := linkBad_of (rev_comp hS [i]).2 rfl h80
      have bA := linkBad_of (rev_comp hS (upTo (compCount d + d.loops.toNat))).2 rfl h80
      have l2 := link_two hS hPl h80
      refine RunC.skip ?_
      refine Ends.then ?_
      refine RunC.seq ?_
      refine RunC.seq ?_
      refine RunC.region ?_
      refine RunL.still rfl rfl rfl (Still.move rfl rfl) ?_
      refine RunL.still rfl rfl rfl (Still.neq rfl rfl rfl) ?_
      refine RunL.again (t := 91) (u := .bool false) rfl (congrArg Value.bool (decide_eq_false (fun h => h (if_neg h80)))) ?_
      refine RunL.still rfl rfl rfl (Still.move rfl rfl) ?_
      refine RunL.still rfl rfl rfl (Still.move rfl rfl) ?_
      refine RunL.still rfl rfl rfl (Still.mul rfl rfl rfl (fits64 (by omega) (by omega))) ?_
      refine RunL.still rfl rfl rfl (Still.loads rfl rfl Tryd.isAgg24 Tryd.sizeOf24 (vs := [_, _]) rfl (fun _ hs => cells_nth (hs.at (i := 0) rfl) ⟨rfl, ⟨rfl, trivial⟩⟩)) ?_
      refine RunL.still rfl rfl rfl (Still.move rfl rfl) ?_
      refine RunL.still rfl rfl rfl (Still.move rfl rfl) ?_
      refine RunL.grows rfl rfl rfl (Grows.call (vs := #[_, _, _]) rfl rfl Tryd.call28 (fun w hs => ref_Linking base A cap d i j w (hd.sym hs) hS)) (fun _ _ => ?_)
      refine RunL.still rfl rfl rfl (Still.neq rfl rfl rfl) ?_
      refine RunL.again (t := 99) (u := .bool false) rfl (congrArg Value.bool (decide_eq_false (fun h => h l2))) ?_
      refine RunL.still rfl rfl rfl (Still.pickF rfl rfl rfl) ?_
      refine RunL.nil ?_
      refine Ends.then ?_
      refine RunC.cond_false rfl ?_
      refine RunC.skip ?_
      refine Ends.then ?_
      refine RunC.seq ?_
      refine RunC.region ?_
      refine RunL.grows rfl rfl rfl (Grows.empty rfl Tryd.underlying28 Tryd.sizeOf3 Tryd.zeroValue3) (fun b101 _ => ?_)
      refine RunL.still rfl rfl rfl (Still.assign rfl rfl) ?_
      refine RunL.nil ?_
      refine Ends.then ?_
      refine RunC.seq ?_
      refine RunC.seq ?_
      refine RunC.region ?_
      refine RunL.still rfl rfl rfl (Still.assign rfl rfl) ?_
      refine RunL.nil ?_
      refine Ends.then ?_
      refine RunC.block ?_
      refine RunC.loop2 (γ := Value × Nat) (keep := [(1, _), (2, _), (3, _), (7, _), (10, _)]) (hkeep := [_]) (fun (v, k) => k ≤ (compCount d + d.loops.toNat)) (fun (v, k) => (compCount d + d.loops.toNat) - k) (fun (v, k) => [(11, v), (12, iv k)]) (fun (v, k) => [HL.own 3 1 v k (ints (upTo k))]) (.slice (some ⟨b101, 0, none⟩) 0 0, 0) (by omega) (Fr.Sub.cons rfl (Fr.Sub.cons rfl (Fr.Sub.nil _))) (Fr.Sub.cons rfl (Fr.Sub.cons rfl (Fr.Sub.cons rfl (Fr.Sub.cons rfl (Fr.Sub.cons rfl (Fr.Sub.nil _)))))) (HSub.pick 0 rfl (HSub.pick 0 rfl (HSub.nil _))) ?_
      rintro ⟨v, k⟩ hkn
      refine RunC.seq ?_
      refine RunC.seq ?_
      refine RunC.region ?_
      refine RunL.still rfl rfl rfl (Still.move rfl rfl) ?_
      refine RunL.still rfl rfl rfl (Still.move rfl rfl) ?_
      refine RunL.still rfl rfl rfl (Still.lss rfl rfl rfl) ?_
      refine RunL.nil ?_
      refine Ends.then ?_
      refine RunC.cond rfl (fun h104 => ?_) (fun h104 => ?_)
      · have h104 := of_decide_eq_true h104
        have hkn : k ≤ (compCount d + d.loops.toNat) := hkn
        refine RunC.skip ?_
        refine Ends.then ?_
        refine RunC.seq ?_
        refine RunC.block ?_
        refine RunC.region ?_
        refine RunL.still rfl rfl rfl (Still.move rfl rfl) ?_
        refine RunL.still rfl rfl rfl (Still.move rfl rfl) ?_
        refine RunL.grows rfl rfl rfl (Grows.slice1 rfl rfl Tryd.underlying28 Tryd.sizeOf3 rfl Tryd.zeroValue3 (by decide)) (fun b109 _ => ?_)
        refine RunL.does rfl rfl rfl (Does.appendTo (n' := (k + 1)) (xs' := (ints (upTo k ++ [(k : Int)]))) (news := [_]) rfl rfl rfl rfl (i := 1) rfl Tryd.underlying28 (by kernel_rfl : (_ : Option _) = some (some (.int .i64 0), 1, 8)) rfl rfl (fun _ hs => cells_nth (hs.at (i := 0) rfl) ⟨rfl, trivial⟩) rfl rfl (by omega) (by omega) (rfl) (ints_snoc _ _)) (fun v110 hv110 => ?_)
        refine RunL.still rfl rfl rfl (Still.assign rfl rfl) ?_
        refine RunL.nil ?_
        refine Ends.block ?_
        refine Ends.then ?_
        refine RunC.region ?_
        refine RunL.still rfl rfl rfl (Still.move rfl rfl) ?_
        refine RunL.still rfl rfl rfl (Still.add rfl rfl rfl (fits64 (by omega) (by omega))) ?_
        refine RunL.still rfl rfl rfl (Still.assign rfl rfl) ?_
        refine RunL.nil ?_
        refine Ends.again (v110, k + 1) ?_ ?_ (Fr.Sub.app ?_ ?_) ?_
        · show k + 1 ≤ _; omega
        · show _ - (k + 1) < _ - k; omega
        · exact Fr.Sub.cons rfl (Fr.Sub.cons rfl (Fr.Sub.nil _))
        · exact Fr.Sub.cons rfl (Fr.Sub.cons rfl (Fr.Sub.cons rfl (Fr.Sub.cons rfl (Fr.Sub.cons rfl (Fr.Sub.nil _)))))
        · exact HSub.pick 1 (by rw [upTo_succ]; rfl) (HSub.pick 1 rfl (HSub.nil _))
      · have h104 := of_decide_eq_false h104
        have hkn : k ≤ (compCount d + d.loops.toNat) := hkn
        obtain rfl : k = (compCount d + d.loops.toNat) := by omega
        refine RunC.know (fun _ hs => own_shape (hs.own (i := 0) rfl)) (fun hsh => ?_)
        obtain ⟨vb, vc, hvv, hvb⟩ := hsh
        subst hvv
        refine RunC.exit ?_
        refine Ends.then_exit ?_
        refine Ends.then_exit ?_
        refine Ends.block_exit ?_
        refine Ends.then ?_
        refine RunC.seq ?_
        refine RunC.region ?_
        refine RunL.still rfl rfl rfl (Still.loads rfl rfl Tryd.isAgg24 Tryd.sizeOf24 (vs := [_, _]) rfl (fun _ hs => cells_nth (hs.at (i := 1) rfl) ⟨rfl, ⟨rfl, trivial⟩⟩)) ?_
        refine RunL.grows rfl rfl rfl (Grows.call (vs := #[_]) rfl rfl Tryd.call19 (fun w hs => dg_Mirror_ok base A cap d w (hd.sym hs) hc)) (fun mq _ => ?_)
        refine RunL.still rfl rfl rfl (Still.move rfl rfl) ?_
        refine RunL.still rfl rfl rfl (Still.extractN rfl rfl rfl) ?_
        refine RunL.still rfl rfl rfl (Still.extractN rfl rfl rfl) ?_
        refine RunL.grows rfl rfl rfl (Grows.alloc rfl Tryd.zeroValue24) (fun b13 _ => ?_)
        refine RunL.does0 rfl rfl (Does.store rfl rfl rfl (i := 0) rfl Tryd.sizeOf24 rfl (rfl) rfl) (fun _ _ => ?_)
        refine RunL.still rfl rfl rfl (Still.assign rfl rfl) ?_
        refine RunL.nil ?_
        refine Ends.then ?_
        refine RunC.seq ?_
        refine RunC.region ?_
        refine RunL.still rfl rfl rfl (Still.loads rfl rfl Tryd.isAgg24 Tryd.sizeOf24 (vs := [_, _]) rfl (fun _ hs => cells_nth (hs.at (i := 3) rfl) ⟨rfl, ⟨rfl, trivial⟩⟩)) ?_
        refine RunL.grows rfl rfl rfl (Grows.call (vs := #[_]) rfl rfl Tryd.call20 (fun w hs => dg_Reflect_ok base A cap d w (hd.sym hs) hc)) (fun fq _ => ?_)
        refine RunL.still rfl rfl rfl (Still.move rfl rfl) ?_
        refine RunL.still rfl rfl rfl (Still.extractN rfl rfl rfl) ?_
        refine RunL.still rfl rfl rfl (Still.extractN rfl rfl rfl) ?_
        refine RunL.grows rfl rfl rfl (Grows.alloc rfl Tryd.zeroValue24) (fun b15 _ => ?_)
        refine RunL.does0 rfl rfl (Does.store rfl rfl rfl (i := 0) rfl Tryd.sizeOf24 rfl (rfl) rfl) (fun _ _ => ?_)
        refine RunL.still rfl rfl rfl (Still.assign rfl rfl) ?_
        refine RunL.nil ?_
        refine Ends.then ?_
        refine RunC.seq ?_
        refine RunC.region ?_
        refine RunL.still rfl rfl rfl (Still.loads rfl rfl Tryd.isAgg24 Tryd.sizeOf24 (vs := [_, _]) rfl (fun _ hs => cells_nth (hs.at (i := 5) rfl) ⟨rfl, ⟨rfl, trivial⟩⟩)) ?_
        refine RunL.still rfl rfl rfl (Still.move rfl rfl) ?_
        refine RunL.grows rfl rfl rfl (Grows.slice1 rfl rfl Tryd.underlying28 Tryd.sizeOf3 rfl Tryd.zeroValue3 (by decide)) (fun b124 _ => ?_)
        refine RunL.conv (fun _ hs => Sym.obj_own (k := 1) (n := 1) hs rfl (by omega)) ?_
        refine RunL.grows rfl rfl rfl (Grows.call (vs := #[_, _]) rfl rfl Tryd.call21 (fun w hs => dg_Rev_ok base A cap d _ _ _ [i] w (hd.sym hs) (IntsAt.of_own (hs.own (i := 0) rfl)) (by simp) hc hD1)) (fun rq _ => ?_)
        refine RunL.still rfl rfl rfl (Still.move rfl rfl) ?_
        refine RunL.still rfl rfl rfl (Still.extractN rfl rfl rfl) ?_
        refine RunL.still rfl rfl rfl (Still.extractN rfl rfl rfl) ?_
        refine RunL.grows rfl rfl rfl (Grows.alloc rfl Tryd.zeroValue24) (fun b17 _ => ?_)
        refine RunL.does0 rfl rfl (Does.store rfl rfl rfl (i := 0) rfl Tryd.sizeOf24 rfl (rfl) rfl) (fun _ _ => ?_)
        refine RunL.still rfl rfl rfl (Still.assign rfl rfl) ?_
        refine RunL.nil ?_
        refine Ends.then ?_
        refine RunC.seq ?_
        refine RunC.region ?_
        refine RunL.still rfl rfl rfl (Still.loads rfl rfl Tryd.isAgg24 Tryd.sizeOf24 (vs := [_, _]) rfl (fun _ hs => cells_nth (hs.at (i := 8) rfl) ⟨rfl, ⟨rfl, trivial⟩⟩)) ?_
        refine RunL.still rfl rfl rfl (Still.move rfl rfl) ?_
        refine RunL.grows rfl rfl rfl (Grows.call (vs := #[_, _]) rfl rfl Tryd.call21 (fun w hs => dg_Rev_len base A cap d vb _ vc _ (upTo (compCount d + d.loops.toNat)) w (upTo_len _) (hd.sym hs) (own_upTo (hs.own (i := 7) rfl)) hc hDA)) (fun aq _ => ?_)
        refine RunL.still rfl rfl rfl (Still.move rfl rfl) ?_
        refine RunL.still rfl rfl rfl (Still.extractN rfl rfl rfl) ?_
        refine RunL.still rfl rfl rfl (Still.extractN rfl rfl rfl) ?_
        refine RunL.grows rfl rfl rfl (Grows.alloc rfl Tryd.zeroValue24) (fun b19 _ => ?_)
        refine RunL.does0 rfl rfl (Does.store rfl rfl rfl (i := 0) rfl Tryd.sizeOf24 rfl (rfl) rfl) (fun _ _ => ?_)
        refine RunL.still rfl rfl rfl (Still.assign rfl rfl) ?_
        refine RunL.nil ?_
        refine Ends.then ?_
        refine RunC.seq ?_
        refine RunC.region ?_
        refine RunL.still rfl rfl rfl (Still.loads rfl rfl Tryd.isAgg24 Tryd.sizeOf24 (vs := [_, _]) rfl (fun _ hs => cells_nth (hs.at (i := 10) rfl) ⟨rfl, ⟨rfl, trivial⟩⟩)) ?_
        refine RunL.grows rfl rfl rfl (Grows.call (vs := #[_]) rfl rfl Tryd.call11 (fun w hs => dg_Writhe_ok base A cap d w (hd.sym hs) hc)) (fun _ _ => ?_)
        refine RunL.still rfl rfl rfl (Still.move rfl rfl) ?_
        refine RunL.still rfl rfl rfl (Still.extractN rfl rfl rfl) ?_
        refine RunL.still rfl rfl rfl (Still.extractN rfl rfl rfl) ?_
        refine RunL.still rfl rfl rfl (Still.assign rfl rfl) ?_
        refine RunL.still rfl rfl rfl (Still.assign rfl rfl) ?_
        refine RunL.nil ?_
        refine Ends.then ?_
        refine RunC.seq ?_
        refine RunC.region ?_
        refine RunL.still rfl rfl rfl (Still.loads rfl rfl Tryd.isAgg24 Tryd.sizeOf24 (vs := [_, _]) rfl (fun _ hs => cells_nth (hs.at (i := 7) rfl) ⟨rfl, ⟨rfl, trivial⟩⟩)) ?_
        refine RunL.still rfl rfl rfl (Still.move rfl rfl) ?_
        refine RunL.still rfl rfl rfl (Still.move rfl rfl) ?_
        refine RunL.grows rfl rfl rfl (Grows.call (vs := #[_, _, _]) rfl rfl Tryd.call27 (fun w hs => dg_Linking_ok mq.1 _ mq.2 (mirD d) i j w (DiaAt.of_ownD hM (hs.at (i := 8) rfl)) hcM)) (fun _ _ => ?_)
        refine RunL.still rfl rfl rfl (Still.move rfl rfl) ?_
        refine RunL.still rfl rfl rfl (Still.extractN rfl rfl rfl) ?_
        refine RunL.still rfl rfl rfl (Still.extractN rfl rfl rfl) ?_
        refine RunL.still rfl rfl rfl (Still.assign rfl rfl) ?_
        refine RunL.still rfl rfl rfl (Still.assign rfl rfl) ?_
        refine RunL.nil ?_
        refine Ends.then ?_
        refine RunC.seq ?_
        refine RunC.region ?_
        refine RunL.still rfl rfl rfl (Still.loads rfl rfl Tryd.isAgg24 Tryd.sizeOf24 (vs := [_, _]) rfl (fun _ hs => cells_nth (hs.at (i := 5) rfl) ⟨rfl, ⟨rfl, trivial⟩⟩)) ?_
        refine RunL.still rfl rfl rfl (Still.move rfl rfl) ?_
        refine RunL.still rfl rfl rfl (Still.move rfl rfl) ?_
        refine RunL.grows rfl rfl rfl (Grows.call (vs := #[_, _, _]) rfl rfl Tryd.call27 (fun w hs => dg_Linking_ok fq.1 _ fq.2 (refD d) i j w (DiaAt.of_ownD hF (hs.at (i := 6) rfl)) hcF)) (fun _ _ => ?_)
        refine RunL.still rfl rfl rfl (Still.move rfl rfl) ?_
        refine RunL.still rfl rfl rfl (Still.extractN rfl rfl rfl) ?_
        refine RunL.still rfl rfl rfl (Still.extractN rfl rfl rfl) ?_
        refine RunL.still rfl rfl rfl (Still.assign rfl rfl) ?_
        refine RunL.still rfl rfl rfl (Still.assign rfl rfl) ?_
        refine RunL.nil ?_
        refine Ends.then ?_
        refine RunC.seq ?_
        refine RunC.region ?_
        refine RunL.still rfl rfl rfl (Still.loads rfl rfl Tryd.isAgg24 Tryd.sizeOf24 (vs := [_, _]) rfl (fun _ hs => cells_nth (hs.at (i := 2) rfl) ⟨rfl, ⟨rfl, trivial⟩⟩)) ?_
        refine RunL.still rfl rfl rfl (Still.move rfl rfl) ?_
        refine RunL.still rfl rfl rfl (Still.move rfl rfl) ?_
        refine RunL.grows rfl rfl rfl (Grows.call (vs := #[_, _, _]) rfl rfl Tryd.call27 (fun w hs => dg_Linking_ok rq.1 _ rq.2 (revD d [i]) i j w (DiaAt.of_ownD hV (hs.at (i := 3) rfl)) hcV)) (fun _ _ => ?_)
        refine RunL.still rfl rfl rfl (Still.move rfl rfl) ?_
        refine RunL.still rfl rfl rfl (Still.extractN rfl rfl rfl) ?_
        refine RunL.still rfl rfl rfl (Still.extractN rfl rfl rfl) ?_
        refine RunL.still rfl rfl rfl (Still.assign rfl rfl) ?_
        refine RunL.still rfl rfl rfl (Still.assign rfl rfl) ?_
        refine RunL.nil ?_
        refine Ends.then ?_
        refine RunC.seq ?_
        refine RunC.region ?_
        refine RunL.still rfl rfl rfl (Still.loads rfl rfl Tryd.isAgg24 Tryd.sizeOf24 (vs := [_, _]) rfl (fun _ hs => cells_nth (hs.at (i := 0) rfl) ⟨rfl, ⟨rfl, trivial⟩⟩)) ?_
        refine RunL.still rfl rfl rfl (Still.move rfl rfl) ?_
        refine RunL.still rfl rfl rfl (Still.move rfl rfl) ?_
        refine RunL.grows rfl rfl rfl (Grows.call (vs := #[_, _, _]) rfl rfl Tryd.call27 (fun w hs => dg_Linking_ok aq.1 _ aq.2 (revD d (upTo (compCount d + d.loops.toNat))) i j w (DiaAt.of_ownD hA (hs.at (i := 1) rfl)) hcA)) (fun _ _ => ?_)
        refine RunL.still rfl rfl rfl (Still.move rfl rfl) ?_
        refine RunL.still rfl rfl rfl (Still.extractN rfl rfl rfl) ?_
        refine RunL.still rfl rfl rfl (Still.extractN rfl rfl rfl) ?_
        refine RunL.still rfl rfl rfl (Still.assign rfl rfl) ?_
        refine RunL.still rfl rfl rfl (Still.assign rfl rfl) ?_
        refine RunL.nil ?_
        refine Ends.then ?_
        refine RunC.seq ?_
        refine RunC.region ?_
        refine RunL.still rfl rfl rfl (Still.loads rfl rfl Tryd.isAgg24 Tryd.sizeOf24 (vs := [_, _]) rfl (fun _ hs => cells_nth (hs.at (i := 7) rfl) ⟨rfl, ⟨rfl, trivial⟩⟩)) ?_
        refine RunL.grows rfl rfl rfl (Grows.call (vs := #[_]) rfl rfl Tryd.call11 (fun w hs => dg_Writhe_ok mq.1 _ mq.2 (mirD d) w (DiaAt.of_ownD hM (hs.at (i := 8) rfl)) hcM)) (fun _ _ => ?_)
        refine RunL.still rfl rfl rfl (Still.move rfl rfl) ?_
        refine RunL.still rfl rfl rfl (Still.extractN rfl rfl rfl) ?_
        refine RunL.still rfl rfl rfl (Still.extractN rfl rfl rfl) ?_
        refine RunL.still rfl rfl rfl (Still.assign rfl rfl) ?_
        refine RunL.still rfl rfl rfl (Still.assign rfl rfl) ?_
        refine RunL.nil ?_
        refine Ends.then ?_
        refine RunC.seq ?_
        refine RunC.region ?_
        refine RunL.still rfl rfl rfl (Still.loads rfl rfl Tryd.isAgg24 Tryd.sizeOf24 (vs := [_, _]) rfl (fun _ hs => cells_nth (hs.at (i := 0) rfl) ⟨rfl, ⟨rfl, trivial⟩⟩)) ?_
        refine RunL.grows rfl rfl rfl (Grows.call (vs := #[_]) rfl rfl Tryd.call11 (fun w hs => dg_Writhe_ok aq.1 _ aq.2 (revD d (upTo (compCount d + d.loops.toNat))) w (DiaAt.of_ownD hA (hs.at (i := 1) rfl)) hcA)) (fun _ _ => ?_)
        refine RunL.still rfl rfl rfl (Still.move rfl rfl) ?_
        refine RunL.still rfl rfl rfl (Still.extractN rfl rfl rfl) ?_
        refine RunL.still rfl rfl rfl (Still.extractN rfl rfl rfl) ?_
        refine RunL.still rfl rfl rfl (Still.assign rfl rfl) ?_
        refine RunL.still rfl rfl rfl (Still.assign rfl rfl) ?_
        refine RunL.nil ?_
        refine Ends.then ?_
        refine RunC.seq ?_
        refine RunC.region ?_
        refine RunL.grows rfl rfl rfl (Grows.call (vs := #[]) rfl rfl Tryd.call13 (fun w hs => lw_sane w)) (fun _ _ => ?_)
        refine RunL.again (t := 177) (u := .bool true) rfl (rfl) ?_
        refine RunL.still rfl rfl rfl (Still.move rfl rfl) ?_
        refine RunL.still rfl rfl rfl (Still.move rfl rfl) ?_
        refine RunL.still rfl rfl rfl (Still.eql rfl rfl rfl) ?_
        refine RunL.again (t := 180) (u := .bool true) rfl (rfl) ?_
        refine RunL.still rfl rfl rfl (Still.pickT rfl rfl rfl) ?_
        refine RunL.still rfl rfl rfl (Still.move rfl rfl) ?_
        refine RunL.still rfl rfl rfl (Still.move rfl rfl) ?_
        refine RunL.still rfl rfl rfl (Still.eql rfl rfl rfl) ?_
        refine RunL.again (t := 184) (u := .bool true) rfl (congrArg Value.bool (decide_eq_true (linkE_of bM))) ?_
        refine RunL.still rfl rfl rfl (Still.pickT rfl rfl rfl) ?_
        refine RunL.still rfl rfl rfl (Still.move rfl rfl) ?_
        refine RunL.still rfl rfl rfl (Still.move rfl rfl) ?_
        refine RunL.still rfl rfl rfl (Still.eql rfl rfl rfl) ?_
        refine RunL.again (t := 188) (u := .bool true) rfl (congrArg Value.bool (decide_eq_true (linkE_of bF))) ?_
        refine RunL.still rfl rfl rfl (Still.pickT rfl rfl rfl) ?_
        refine RunL.still rfl rfl rfl (Still.move rfl rfl) ?_
        refine RunL.still rfl rfl rfl (Still.move rfl rfl) ?_
        refine RunL.still rfl rfl rfl (Still.eql rfl rfl rfl) ?_
        refine RunL.again (t := 192) (u := .bool true) rfl (congrArg Value.bool (decide_eq_true (linkE_of bV))) ?_
        refine RunL.still rfl rfl rfl (Still.pickT rfl rfl rfl) ?_
        refine RunL.still rfl rfl rfl (Still.move rfl rfl) ?_
        refine RunL.still rfl rfl rfl (Still.move rfl rfl) ?_
        refine RunL.still rfl rfl rfl (Still.eql rfl rfl rfl) ?_
        refine RunL.again (t := 196) (u := .bool true) rfl (congrArg Value.bool (decide_eq_true (linkE_of bA))) ?_
        refine RunL.still rfl rfl rfl (Still.pickT rfl rfl rfl) ?_
        refine RunL.still rfl rfl rfl (Still.move rfl rfl) ?_
        refine RunL.still rfl rfl rfl (Still.move rfl rfl) ?_
        refine RunL.still rfl rfl rfl (Still.eql rfl rfl rfl) ?_
        refine RunL.again (t := 200) (u := .bool true) rfl (rfl) ?_
        refine RunL.still rfl rfl rfl (Still.pickT rfl rfl rfl) ?_
        refine RunL.still rfl rfl rfl (Still.move rfl rfl) ?_
        refine RunL.still rfl rfl rfl (Still.move rfl rfl) ?_
        refine RunL.still rfl rfl rfl (Still.eql rfl rfl rfl) ?_
        refine RunL.again (t := 204) (u := .bool true) rfl (rfl) ?_
        refine RunL.still rfl rfl rfl (Still.pickT rfl rfl rfl) ?_
        refine RunL.still rfl rfl rfl (Still.move rfl rfl) ?_
        refine RunL.still rfl rfl rfl (Still.move rfl rfl) ?_
        refine RunL.still rfl rfl rfl (Still.move rfl rfl) ?_
        refine RunL.still rfl rfl rfl (Still.neg rfl rfl (fits64 (by omega) (by omega))) ?_
        refine RunL.still rfl rfl rfl (Still.eql rfl rfl rfl) ?_
        refine RunL.again (t := 210) (u := .bool true) rfl (congrArg Value.bool (decide_eq_true (linkR_neg h80 bM (link_mir hS i j)))) ?_
        refine RunL.still rfl rfl rfl (Still.pickT rfl rfl rfl) ?_
        refine RunL.still rfl rfl rfl (Still.move rfl rfl) ?_
        refine RunL.still rfl rfl rfl (Still.move rfl rfl) ?_
        refine RunL.still rfl rfl rfl (Still.move rfl rfl) ?_
        refine RunL.still rfl rfl rfl (Still.neg rfl rfl (fits64 (by omega) (by omega))) ?_
        refine RunL.still rfl rfl rfl (Still.eql rfl rfl rfl) ?_
        refine RunL.again (t := 216) (u := .bool true) rfl (congrArg Value.bool (decide_eq_true (linkR_neg h80 bF (link_ref hS i j)))) ?_
        refine RunL.still rfl rfl rfl (Still.pickT rfl rfl rfl) ?_
        refine RunL.still rfl rfl rfl (Still.move rfl rfl) ?_
        refine RunL.still rfl rfl rfl (Still.move rfl rfl) ?_
        refine RunL.still rfl rfl rfl (Still.move rfl rfl) ?_
        refine RunL.still rfl rfl rfl (Still.neg rfl rfl (fits64 (by omega) (by omega))) ?_
        refine RunL.still rfl rfl rfl (Still.eql rfl rfl rfl) ?_
        refine RunL.again (t := 222) (u := .bool true) rfl (congrArg Value.bool (decide_eq_true (linkR_neg h80 bV (link_rev_one hS hij)))) ?_
        refine RunL.still rfl rfl rfl (Still.pickT rfl rfl rfl) ?_
        refine RunL.still rfl rfl rfl (Still.move rfl rfl) ?_
        refine RunL.still rfl rfl rfl (Still.move rfl rfl) ?_
        refine RunL.still rfl rfl rfl (Still.move rfl rfl) ?_
        refine RunL.still rfl rfl rfl (Still.eql rfl rfl rfl) ?_
        refine RunL.again (t := 227) (u := .bool true) rfl (congrArg Value.bool (decide_eq_true (linkR_same h80 bA (link_rev_all hS i j (by omega))))) ?_
        refine RunL.still rfl rfl rfl (Still.pickT rfl rfl rfl) ?_
        refine RunL.still rfl rfl rfl (Still.move rfl rfl) ?_
        refine RunL.still rfl rfl rfl (Still.move rfl rfl) ?_
        refine RunL.still rfl rfl rfl (Still.move rfl rfl) ?_
        refine RunL.still rfl rfl rfl (Still.neg rfl rfl (fits64 (by omega) (by omega))) ?_
        refine RunL.still rfl rfl rfl (Still.eql rfl rfl rfl) ?_
        refine RunL.again (t := 233) (u := .bool true) rfl (congrArg Value.bool (decide_eq_true (writhe_mir hS))) ?_
        refine RunL.still rfl rfl rfl (Still.pickT rfl rfl rfl) ?_
        refine RunL.still rfl rfl rfl (Still.move rfl rfl) ?_
        refine RunL.still rfl rfl rfl (Still.move rfl rfl) ?_
        refine RunL.still rfl rfl rfl (Still.move rfl rfl) ?_
        refine RunL.still rfl rfl rfl (Still.eql rfl rfl rfl) ?_
        refine RunL.again (t := 238) (u := .bool true) rfl (congrArg Value.bool (decide_eq_true (writhe_rev_all hS (by omega)))) ?_
        refine RunL.still rfl rfl rfl (Still.pickT rfl rfl rfl) ?_
        refine RunL.still rfl rfl rfl (Still.assign rfl rfl) ?_
        refine RunL.nil ?_
        refine Ends.then ?_
        refine RunC.ret ?_
        refine Ends.leave (.inl rfl) (fun _ _ ok => results1 Tryd.results5 (Holds.tmp rfl) ok) (fun w2 hs => ?_)
        exact Ret.intro () trivial rfl (HSub.nil _) hs

theorem lw_DiagLinks (base : Option Addr) (A : Addr) (cap : Nat) (d : Dia) (i j : Int) (w : World) (hd : DiaAt w base A d) (_ : In64 i) (_ : In64 j) : Gives Tryd.prog 5 #[diaV base cap d, iv i, iv j] w Nil (fun _ : Unit => True) (fun _ => .bool true) (fun _ => []) := by
  by_cases hl : 20 < d.cross.length ∧ d.cross.length ≤ 200
  · exact lw_DiagLinks_big base cap d i j w hl
  · by_cases hc : checkI d = 0
    · exact lw_DiagLinks_ok base A cap d i j w hd hl hc
    · exact lw_DiagLinks_bad base A cap d i j w hd hl hc

end Go.Proofs
